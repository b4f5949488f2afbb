/- The functions that 'PoolPlays' reaches, in the fast evaluator's form, each held against the program's own text by the kernel. Written by a program. -/
import Derived.Test.YtndlcnfnoiabbaaGevKM
import Derived.Test.YtndlcnfnoiabbaaProg
import Derived.KernelRfl
namespace Go.Proofs.Ytndlcnfnoiabbaa.poolPlays
open Go.Gev
set_option linter.unusedVariables false
set_option maxRecDepth 100000 in
noncomputable def r3 (R : RnK) (N : Nat) (args : List Value) (h : Hs) : An := unC args fun a0 sq0 => unC sq0 fun a1 sq1 => enK h fun h0 =>
 after (fun x0 h1 =>
 kCall R 4 [] h1 (fun x2 h3 =>
 kNot x2 (fun x4 =>
 jn (fun (x6 : Value) (h7 : Hs) =>
 kLoads 4 x0 h7 (fun x8 =>
 kCall R 5 [x8] h7 (fun x9 h10 =>
 kNot x9 (fun x11 =>
 gdF x11 h10 (fun k12 => kFieldA 0 x0 (fun x13 => k12 x13 h10)) (fun x14 h15 =>
 gdF x11 h15 (fun k16 => kLoad x14 h15 (fun x17 => k16 x17 h15)) (fun x18 h19 =>
 gdF x11 h19 (fun k20 => kI64 .gtr x18 (Value.int .i64 (.ofNat 200)) (fun x21 => k20 x21 h19)) (fun x22 h23 =>
 after (fun x24 h25 =>
 gdF x24 h25 (fun k26 => k26 a1 h25) (fun x27 h28 =>
 gdF x24 h28 (fun k29 => kLenV x27 (fun x30 => k29 x30 h28)) (fun x31 h32 =>
 gdF x24 h32 (fun k33 => kI64 .gtr x31 (Value.int .i64 (.ofNat 30)) (fun x34 => k33 x34 h32)) (fun x35 h36 =>
 after (fun x37 h38 =>
 jn (fun (x40 : Value) (h41 : Hs) =>
 kLoads 4 x0 (Hs.mk h41.hp h41.nx h41.nx) (fun x42 =>
 kLoads 4 x0 (Hs.mk h41.hp h41.nx h41.nx) (fun x43 =>
 kCall R 7 [x43] (Hs.mk h41.hp h41.nx h41.nx) (fun v900 u901 => dPut (fun x44 h45 =>
 kCall R 6 [x42, x44] h45 (fun v898 u899 => dPut (fun x46 h47 =>
 kExtr x46 0 (fun x48 =>
 kExtr x46 1 (fun x49 =>
 kI64 .neq x49 (Value.int .i64 (.ofNat 0)) (fun x50 =>
 gdF x50 h47 (fun k51 => k51 x48 h47) (fun x52 h53 =>
 gdF x50 h53 (fun k54 => obK (fun x55 => k54 x55 h53) (e2 false qP x52 (Value.pointer none))) (fun x56 h57 =>
 after (fun x58 h59 =>
 jn (fun (x61 : Value) (h62 : Hs) =>
 kLoads 4 x0 h62 (fun x63 =>
 kCall R 8 [x63] h62 (fun x64 h65 =>
 kExtr x64 0 (fun x66 =>
 kExtr x64 1 (fun x67 =>
 kLoads 4 x0 h65 (fun x68 =>
 kCall R 7 [x68] h65 (fun x69 h70 =>
 after (fun x71 h72 =>
 kStore1 x71 x69 h72 (fun x73 h74 =>
 jn (fun (x76 x77 x78 x79 x80 x81 x82 x83 x84 x85 x86 x87 x88 x89 x90 x91 x92 x93 x94 x95 x96 x97 x98 x99 x100 x101 x102 x103 x104 x105 x106 x107 x108 x109 x110 x111 x112 x113 : Value) (h114 : Hs) =>
 kCall R 19 [x48] (Hs.mk h114.hp h114.nx h114.nx) (fun v126 u127 => dPut (fun x115 h116 =>
 kFieldA 0 x0 (fun x117 =>
 kLoad x117 (dHidS .light [true, false, false] [none, some (h114.nx, h116.nx), none] h116) (fun x118 =>
 kLoads 1 x71 (dHidS .light [false, false, false, false] [none, none, some (h114.nx, h116.nx), none] h116) (fun x119 =>
 kCall R 21 [x119] (dHidS .light [true, false, false, true, true] [none, none, none, some (h114.nx, h116.nx), none] h116) (fun v124 u125 => dPut (fun x120 h121 =>
 kI64 .sub x118 x120 (fun x122 =>
 kI64 .eql x115 x122 (fun x123 =>
 clrK h x123 h121))) v124 (dNext h116 u125 .light) (andB (dFit h116 u125 .light) (Nat.ble 0 u125.lo))))))) v126 (dNext h114 u127 .light) (andB (dFit h114 u127 .light) (Nat.ble 0 u127.lo)))) fun k75 =>
 lpT (T := Value → Value → Value → Value → Value → Value → Value → Value → Value → Value → Value → Value → Value → Value → Value → Value → Value → Value → Value → Value → Value → Value → Value → Value → Value → Value → Value → Value → Value → Value → Value → Value → Value → Value → Value → Value → Value → Value → Hs → An) (fun _ _ _ _ _ _ _ _ _ _ _ _ _ _ _ _ _ _ _ _ _ _ _ _ _ _ _ _ _ _ _ _ _ _ _ _ _ _ _ => none) N (fun k128 =>
 fun (x130 x131 x132 x133 x134 x135 x136 x137 x138 x139 x140 x141 x142 x143 x144 x145 x146 x147 x148 x149 x150 x151 x152 x153 x154 x155 x156 x157 x158 x159 x160 x161 x162 x163 x164 x165 x166 x167 : Value) (h168 : Hs) =>
 kLenV a1 (fun x169 =>
 kI64 .lss x130 x169 (fun x170 =>
 jn (fun (h172 : Hs) =>
 jn (fun (x174 x175 x176 x177 x178 x179 x180 x181 x182 x183 x184 x185 x186 x187 x188 x189 x190 x191 x192 x193 x194 x195 x196 x197 x198 x199 x200 x201 x202 x203 x204 x205 x206 x207 x208 x209 : Value) (h210 : Hs) =>
 kI64 .add x130 (Value.int .i64 (.ofNat 1)) (fun x211 =>
 k128 x211 x170 x174 x175 x176 x177 x178 x179 x180 x181 x182 x183 x184 x185 x186 x187 x188 x189 x190 x191 x192 x193 x194 x195 x196 x197 x198 x199 x200 x201 x202 x203 x204 x205 x206 x207 x208 x209 h210)) fun k173 =>
 kIdxA 5 a1 x130 (fun x212 =>
 kLoads 5 x212 h172 (fun x213 =>
 after (fun x214 h215 =>
 after (fun x216 h217 =>
 kFieldA 4 x214 (fun x218 =>
 kLoad x218 h217 (fun x219 =>
 kLenV x219 (fun x220 =>
 kI64 .gtr x220 (Value.int .i64 (.ofNat 6)) (fun x221 =>
 jn (fun (x223 : Value) (h224 : Hs) =>
 kFieldA 0 x214 (fun x225 =>
 kLoad x225 h224 (fun x226 =>
 jn (fun (x228 x229 x230 x231 x232 x233 x234 x235 x236 x237 x238 x239 x240 x241 x242 x243 x244 x245 x246 x247 x248 x249 x250 x251 x252 x253 x254 x255 : Value) (h256 : Hs) =>
 kCall R 20 [x48] h256 (fun x257 h258 =>
 after (fun x259 h260 =>
 kStore1 x259 x257 h260 (fun x261 h262 =>
 kFieldA 0 x259 (fun x263 =>
 kLoad x263 h262 (fun x264 =>
 kLenV x264 (fun x265 =>
 kFieldA 0 x71 (fun x266 =>
 kLoad x266 h262 (fun x267 =>
 kLenV x267 (fun x268 =>
 kI64 .neq x265 x268 (fun x269 =>
 jn (fun (x271 : Value) (h272 : Hs) =>
 jn (fun (x274 x275 x276 x277 : Value) (h278 : Hs) =>
 k173 x214 x221 x226 x228 x229 x230 x231 x232 x233 x234 x235 x236 x237 x238 x239 x240 x241 x242 x243 x244 x245 x246 x247 x248 x249 x250 x251 x252 x253 x254 x259 x269 x274 x275 x276 x277 h278) fun k273 =>
 lpT (T := Value → Value → Value → Value → Hs → An) (fun _ _ _ _ _ => none) N (fun k279 =>
 fun (x281 x282 x283 x284 : Value) (h285 : Hs) =>
 kFieldA 0 x71 (fun x286 =>
 kLoad x286 h285 (fun x287 =>
 kLenV x287 (fun x288 =>
 kI64 .lss x281 x288 (fun x289 =>
 jn (fun (h291 : Hs) =>
 jn (fun (x293 x294 : Value) (h295 : Hs) =>
 kI64 .add x281 (Value.int .i64 (.ofNat 1)) (fun x296 =>
 k279 x296 x289 x293 x294 h295)) fun k292 =>
 kFieldA 0 x259 (fun x297 =>
 kLoad x297 (Hs.mk h291.hp h291.nx h291.nx) (fun x298 =>
 kIdxA 1 x298 x281 (fun x299 =>
 kLoad x299 (Hs.mk h291.hp h291.nx h291.nx) (fun x300 =>
 kFieldA 0 x71 (fun x301 =>
 kLoad x301 (Hs.mk h291.hp h291.nx h291.nx) (fun x302 =>
 kIdxA 1 x302 x281 (fun x303 =>
 kLoad x303 (Hs.mk h291.hp h291.nx h291.nx) (fun x304 =>
 kU64 .neq x300 x304 (fun x305 =>
 jn (fun (x307 : Value) (h308 : Hs) =>
 k292 x305 x307 h308) fun k306 =>
 cnd x305
 (clrK h (Value.bool false) h291)
 (k306 x284 h291))))))))))) fun k290 =>
 cnd x289
 (k290 h285)
 (k273 x281 x289 x283 x284 h285)))))) (Value.int .i64 (.ofNat 0)) x165 x166 x271 h272) fun k270 =>
 cnd x269
 (clrK h (Value.bool false) h262)
 (k270 x255 h262)))))))))) (oAlloc 33 [(Value.slice none 0 0)] enE h258))) fun k227 =>
 kI64 .eql x226 (Value.int .i64 (.ofNat 0)) (fun x309 =>
 jn (fun (x311 x312 x313 x314 x315 x316 x317 x318 x319 x320 x321 x322 x323 x324 x325 x326 x327 x328 x329 x330 x331 x332 x333 x334 x335 x336 x337 : Value) (h338 : Hs) =>
 k227 x309 x311 x312 x313 x314 x315 x316 x317 x318 x319 x320 x321 x322 x323 x324 x325 x326 x327 x328 x329 x330 x331 x332 x333 x334 x335 x336 x337 h338) fun k310 =>
 cnd x309
 (kFieldA 1 x214 (fun x339 =>
 kLoad x339 h224 (fun x340 =>
 kFieldA 2 x214 (fun x341 =>
 kLoad x341 h224 (fun x342 =>
 kFieldA 3 x214 (fun x343 =>
 kLoad x343 h224 (fun x344 =>
 kCall R 9 [x48, x340, x342, x344] h224 (fun x345 h346 =>
 kExtr x345 0 (fun x347 =>
 kExtr x345 1 (fun x348 =>
 kFieldA 1 x214 (fun x349 =>
 kLoad x349 h346 (fun x350 =>
 kI64 .lss x350 (Value.int .i64 (.ofNat 0)) (fun x351 =>
 gdF x351 h346 (fun k352 => kFieldA 1 x214 (fun x353 => k352 x353 h346)) (fun x354 h355 =>
 gdF x351 h355 (fun k356 => kLoad x354 h355 (fun x357 => k356 x357 h355)) (fun x358 h359 =>
 gdF x351 h359 (fun k360 => kFieldA 2 x0 (fun x361 => k360 x361 h359)) (fun x362 h363 =>
 gdF x351 h363 (fun k364 => kLoad x362 h363 (fun x365 => k364 x365 h363)) (fun x366 h367 =>
 gdF x351 h367 (fun k368 => kI64 .geq x358 x366 (fun x369 => k368 x369 h367)) (fun x370 h371 =>
 after (fun x372 h373 =>
 gdF x372 h373 (fun k374 => kFieldA 2 x214 (fun x375 => k374 x375 h373)) (fun x376 h377 =>
 gdF x372 h377 (fun k378 => kLoad x376 h377 (fun x379 => k378 x379 h377)) (fun x380 h381 =>
 gdF x372 h381 (fun k382 => kI64 .lss x380 (Value.int .i64 (.ofNat 0)) (fun x383 => k382 x383 h381)) (fun x384 h385 =>
 after (fun x386 h387 =>
 gdF x386 h387 (fun k388 => kFieldA 3 x214 (fun x389 => k388 x389 h387)) (fun x390 h391 =>
 gdF x386 h391 (fun k392 => kLoad x390 h391 (fun x393 => k392 x393 h391)) (fun x394 h395 =>
 gdF x386 h395 (fun k396 => kI64 .lss x394 (Value.int .i64 (.ofNat 1)) (fun x397 => k396 x397 h395)) (fun x398 h399 =>
 after (fun x400 h401 =>
 jn (fun (x403 x404 : Value) (h405 : Hs) =>
 kLoads 1 x71 h405 (fun x406 =>
 kI64 .add x66 x67 (fun x407 =>
 kFieldA 2 x214 (fun x408 =>
 kLoad x408 h405 (fun x409 =>
 kFieldA 3 x214 (fun x410 =>
 kLoad x410 h405 (fun x411 =>
 kCall R 10 [x406, x66, x407, x409, x411] h405 (fun x412 h413 =>
 kExtr x412 0 (fun x414 =>
 kExtr x412 1 (fun x415 =>
 kNot x415 (fun x416 =>
 jn (fun (x418 x419 : Value) (h420 : Hs) =>
 kI64 .neq x348 (Value.int .i64 (.ofNat 0)) (fun x421 =>
 gdF x421 h420 (fun k422 => k422 x347 h420) (fun x423 _ =>
 gdF x421 h420 (fun k425 => kLenV x423 (fun x426 => k425 x426 h420)) (fun x427 _ =>
 gdF x421 h420 (fun k429 => k429 x414 h420) (fun x430 _ =>
 gdF x421 h420 (fun k432 => kI64 .neq x427 x430 (fun x433 => k432 x433 h420)) (fun x434 _ =>
 after (fun v707 u708 => dPut (fun x436 h437 =>
 gdF x436 h437 (fun k438 => k438 x347 h437) (fun x439 _ =>
 gdF x436 h437 (fun k441 => kCall R 12 [x439] (dHidS .light [true, true, true, true, true, true, true, true, true, true] [none, none, some (h420.nx, h437.nx), none, none, none, none, none, none, none] h437) (fun v442 u443 => dPut k441 v442 (dNext h437 u443 .light) (andB (dFit h437 u443 .light) (Nat.ble 0 u443.lo)))) (fun x444 h445 =>
 gdF x436 h445 (fun k446 => kCall R 11 [x444] (dHidS .light [true, true, true, true, true, true, true, true, true, true, true] [some (h437.nx, h445.nx), none, none, some (h420.nx, h437.nx), none, none, none, none, none, none, none] h445) (fun v447 u448 => dPut k446 v447 (dNext h445 u448 .light) (andB (dFit h445 u448 .light) (Nat.ble 0 u448.lo)))) (fun x449 h450 =>
 gdF x436 h450 (fun k451 => kFieldA 2 x214 (fun x452 => k451 x452 h450)) (fun x453 _ =>
 gdF x436 h450 (fun k455 => kLoad x453 (dHidS .light [true, false, false, false, true, true, true, true, true, true, true, true, true] [none, some (h445.nx, h450.nx), some (h437.nx, h445.nx), none, none, some (h420.nx, h437.nx), none, none, none, none, none, none, none] h450) (fun x456 => k455 x456 h450)) (fun x457 _ =>
 gdF x436 h450 (fun k459 => kI64 .neq x449 x457 (fun x460 => k459 x460 h450)) (fun x461 _ =>
 after (fun v705 u706 => dPut (fun x463 h464 =>
 gdF x463 h464 (fun k465 => k465 x347 h464) (fun x466 _ =>
 gdF x463 h464 (fun k468 => kCall R 12 [x466] h464 (fun v469 u470 => dPut k468 v469 (dNext h464 u470 .bar) (andB (dFit h464 u470 .bar) (Nat.ble 0 u470.lo)))) (fun x471 h472 =>
 gdF x463 h472 (fun k473 => k473 x347 h472) (fun x474 _ =>
 gdF x463 h472 (fun k476 => kCall R 12 [x474] h472 (fun v477 u478 => dPut k476 v477 (dNext h472 u478 .bar) (andB (dFit h472 u478 .bar) (Nat.ble 0 u478.lo)))) (fun x479 h480 =>
 gdF x463 h480 (fun k481 => kCall R 14 [x479] h480 (fun v482 u483 => dPut k481 v482 (dNext h480 u483 .bar) (andB (dFit h480 u483 .bar) (Nat.ble 0 u483.lo)))) (fun x484 h485 =>
 gdF x463 h485 (fun k486 => kCall R 13 [x471, x484] h485 (fun v487 u488 => dPut k486 v487 (dNext h485 u488 .bar) (andB (dFit h485 u488 .bar) (Nat.ble 0 u488.lo)))) (fun x489 h490 =>
 gdF x463 h490 (fun k491 => kNot x489 (fun x492 => k491 x492 h490)) (fun x493 _ =>
 after (fun v703 u704 => dPut (fun x495 h496 =>
 gdF x495 h496 (fun k497 => k497 x347 h496) (fun x498 _ =>
 gdF x495 h496 (fun k500 => kCall R 12 [x498] h496 (fun v501 u502 => dPut k500 v501 (dNext h496 u502 .bar) (andB (dFit h496 u502 .bar) (Nat.ble 0 u502.lo)))) (fun x503 h504 =>
 gdF x495 h504 (fun k505 => kCall R 15 [x503] h504 (fun v506 u507 => dPut k505 v506 (dNext h504 u507 .bar) (andB (dFit h504 u507 .bar) (Nat.ble 0 u507.lo)))) (fun x508 h509 =>
 gdF x495 h509 (fun k510 => kNot x508 (fun x511 => k510 x511 h509)) (fun x512 _ =>
 after (fun v701 u702 => dPut (fun x514 h515 =>
 jn (fun (x517 : Value) (h518 : Hs) =>
 jn (fun (x520 x521 x522 x523 x524 x525 x526 : Value) (h527 : Hs) =>
 after (fun x528 h529 =>
 after (fun x530 h531 =>
 k310 x400 x348 x347 x403 x415 x416 x418 x414 x514 x520 x521 x522 x523 x524 x525 x530 x152 x153 x154 x155 x156 x157 x158 x159 x160 x161 x526 h531) (app0 38 1 24 h529 x151 x528)) (oMkrow 38 1 1 [(Value.slice none 0 0)] [(0, 1, .c x347)] enE h527)) fun k519 =>
 lpT (T := Value → Value → Value → Value → Value → Value → Value → Hs → An) (fun _ _ _ _ _ _ _ _ => none) N (fun k532 =>
 fun (x534 x535 x536 x537 x538 x539 x540 : Value) (h541 : Hs) =>
 kLenV x347 (fun x542 =>
 kI64 .lss x534 x542 (fun x543 =>
 jn (fun (h545 : Hs) =>
 jn (fun (x547 x548 x549 x550 x551 : Value) (h552 : Hs) =>
 kI64 .add x534 (Value.int .i64 (.ofNat 1)) (fun x553 =>
 k532 x553 x543 x547 x548 x549 x550 x551 h552)) fun k546 =>
 kIdxA 2 x347 x534 (fun x554 =>
 kFieldA 1 x554 (fun x555 =>
 kLoad x555 h545 (fun x556 =>
 kI64 .lss x556 (Value.int .i64 (.ofNat 1)) (fun x557 =>
 gdF x557 h545 (fun k558 => k558 x347 h545) (fun x559 _ =>
 gdF x557 h545 (fun k561 => k561 x534 h545) (fun x562 _ =>
 gdF x557 h545 (fun k564 => kIdxA 2 x559 x562 (fun x565 => k564 x565 h545)) (fun x566 _ =>
 gdF x557 h545 (fun k568 => kFieldA 0 x566 (fun x569 => k568 x569 h545)) (fun x570 _ =>
 gdF x557 h545 (fun k572 => kLoad x570 h545 (fun x573 => k572 x573 h545)) (fun x574 _ =>
 gdF x557 h545 (fun k576 => k576 x66 h545) (fun x577 _ =>
 gdF x557 h545 (fun k579 => kI64 .lss x574 x577 (fun x580 => k579 x580 h545)) (fun x581 _ =>
 after (fun v699 u700 => dPut (fun x583 h584 =>
 gdF x583 h584 (fun k585 => k585 x347 h584) (fun x586 _ =>
 gdF x583 h584 (fun k588 => k588 x534 h584) (fun x589 _ =>
 gdF x583 h584 (fun k591 => kIdxA 2 x586 x589 (fun x592 => k591 x592 h584)) (fun x593 _ =>
 gdF x583 h584 (fun k595 => kFieldA 0 x593 (fun x596 => k595 x596 h584)) (fun x597 _ =>
 gdF x583 h584 (fun k599 => kLoad x597 (dHidS .light [true, true, true, true, true, true, true, true, true, true, true, true, true, true, true, true, true, true, true, true] [none, none, none, none, none, some (h545.nx, h584.nx), none, none, none, none, none, none, none, none, none, none, none, none, none, none] h584) (fun x600 => k599 x600 h584)) (fun x601 _ =>
 gdF x583 h584 (fun k603 => k603 x347 h584) (fun x604 _ =>
 gdF x583 h584 (fun k606 => k606 x534 h584) (fun x607 _ =>
 gdF x583 h584 (fun k609 => kIdxA 2 x604 x607 (fun x610 => k609 x610 h584)) (fun x611 _ =>
 gdF x583 h584 (fun k613 => kFieldA 1 x611 (fun x614 => k613 x614 h584)) (fun x615 _ =>
 gdF x583 h584 (fun k617 => kLoad x615 (dHidS .light [true, true, true, true, false, false, false, false, false, true, true, true, true, true, true, true, true, true, true, true, true, true, true, true, true] [none, none, none, none, none, none, none, none, none, none, some (h545.nx, h584.nx), none, none, none, none, none, none, none, none, none, none, none, none, none, none] h584) (fun x618 => k617 x618 h584)) (fun x619 _ =>
 gdF x583 h584 (fun k621 => kI64 .add x601 x619 (fun x622 => k621 x622 h584)) (fun x623 _ =>
 gdF x583 h584 (fun k625 => k625 x66 h584) (fun x626 _ =>
 gdF x583 h584 (fun k628 => k628 x67 h584) (fun x629 _ =>
 gdF x583 h584 (fun k631 => kI64 .add x626 x629 (fun x632 => k631 x632 h584)) (fun x633 _ =>
 gdF x583 h584 (fun k635 => kI64 .gtr x623 x633 (fun x636 => k635 x636 h584)) (fun x637 _ =>
 after (fun v697 u698 => dPut (fun x639 h640 =>
 jn (fun (x642 : Value) (h643 : Hs) =>
 jn (fun (x645 x646 x647 x648 : Value) (h649 : Hs) =>
 k546 x639 x645 x646 x647 x648 h649) fun k644 =>
 lpT (T := Value → Value → Value → Value → Hs → An) (fun _ _ _ _ _ => none) N (fun k650 =>
 fun (x652 x653 x654 x655 : Value) (h656 : Hs) =>
 kIdxA 2 x347 x534 (fun x657 =>
 kFieldA 1 x657 (fun x658 =>
 kLoad x658 h656 (fun x659 =>
 kI64 .lss x652 x659 (fun x660 =>
 jn (fun (h662 : Hs) =>
 jn (fun (x664 x665 : Value) (h666 : Hs) =>
 kI64 .add x652 (Value.int .i64 (.ofNat 1)) (fun x667 =>
 k650 x667 x660 x664 x665 h666)) fun k663 =>
 kLoads 1 x71 (Hs.mk h662.hp h662.nx h662.nx) (fun x668 =>
 kIdxA 2 x347 x534 (fun x669 =>
 kFieldA 0 x669 (fun x670 =>
 kLoad x670 (Hs.mk h662.hp h662.nx h662.nx) (fun x671 =>
 kI64 .add x671 x652 (fun x672 =>
 kCall R 16 [x668, x672] h662 (fun v695 u696 => dPut (fun x673 h674 =>
 jn (fun (x676 : Value) (h677 : Hs) =>
 kLoads 1 x71 (Hs.mk h677.hp h677.nx h677.nx) (fun x678 =>
 kIdxA 2 x347 x534 (fun x679 =>
 kFieldA 0 x679 (fun x680 =>
 kLoad x680 (Hs.mk h677.hp h677.nx h677.nx) (fun x681 =>
 kI64 .add x681 x652 (fun x682 =>
 after (fun v693 u694 => dPut (fun x683 h684 =>
 kCall R 17 [x678, (Value.bool true), x683] h684 (fun v691 u692 => dPut (fun x685 h686 =>
 kStore1 x71 x685 h686 (fun v689 u690 => dPut (fun x687 h688 =>
 k663 x673 x676 h688) v689 (dNext h686 u690 .bar) (andB (dFit h686 u690 .bar) (Nat.ble 0 u690.lo)))) v691 (dNext h684 u692 .bar) (andB (dFit h684 u692 .bar) (Nat.ble 0 u692.lo)))) v693 (dNext h677 u694 .light) (andB (dFit h677 u694 .light) (Nat.ble 0 u694.lo))) (oMkrow 3 1 1 [(Value.int .i64 (.ofNat 0))] [(0, 1, .c x682)] enE (Hs.mk h677.hp h677.nx h677.nx)))))))) fun k675 =>
 cnd x673
 (clrK h (Value.bool false) h674)
 (k675 x655 h674)) v695 (dNext h662 u696 .bar) (andB (dFit h662 u696 .bar) (Nat.ble 0 u696.lo))))))))) fun k661 =>
 cnd x660
 (k661 h656)
 (k644 x652 x660 x654 x655 h656)))))) (Value.int .i64 (.ofNat 0)) x538 x539 x642 h643) fun k641 =>
 cnd x639
 (clrK h (Value.bool false) h640)
 (k641 x540 h640)) v697 (dNext h584 u698 .blind) (andB (dFit h584 u698 .blind) (Nat.ble 0 u698.lo))) (pickB (.c (Value.bool true)) (.c x637) enE (Hs.mk .e h584.nx h584.nx) x583))))))))))))))))) v699 (dNext h545 u700 .blind) (andB (dFit h545 u700 .blind) (Nat.ble 0 u700.lo))) (pickB (.c (Value.bool true)) (.c x581) enE (Hs.mk .e h545.nx h545.nx) x557))))))))))))) fun k544 =>
 cnd x543
 (k544 h541)
 (k519 x534 x543 x536 x537 x538 x539 x540 h541)))) (Value.int .i64 (.ofNat 0)) x146 x147 x148 x149 x150 x517 h518) fun k516 =>
 cnd x514
 (clrK h (Value.bool false) h515)
 (k516 x419 h515)) v701 (dNext h509 u702 .blind) (andB (dFit h509 u702 .blind) (Nat.ble 0 u702.lo))) (pickB (.c (Value.bool true)) (.c x512) enE (Hs.mk .e h509.nx h509.nx) x495)))))) v703 (dNext h490 u704 .blind) (andB (dFit h490 u704 .blind) (Nat.ble 0 u704.lo))) (pickB (.c (Value.bool true)) (.c x493) enE (Hs.mk .e h490.nx h490.nx) x463))))))))) v705 (dNext h450 u706 .blind) (andB (dFit h450 u706 .blind) (Nat.ble 0 u706.lo))) (pickB (.c (Value.bool true)) (.c x461) enE (Hs.mk .e h450.nx h450.nx) x436)))))))) v707 (dNext h420 u708 .blind) (andB (dFit h420 u708 .blind) (Nat.ble 0 u708.lo))) (pickB (.c (Value.bool true)) (.c x434) enE (Hs.mk .e h420.nx h420.nx) x421))))))) fun k417 =>
 cnd x416
 (kI64 .neq x348 (Value.int .i64 (.ofNat 7)) (fun x709 =>
 gdF x709 h413 (fun k710 => k710 x347 h413) (fun x711 h712 =>
 gdF x709 h712 (fun k713 => kLenV x711 (fun x714 => k713 x714 h712)) (fun x715 h716 =>
 gdF x709 h716 (fun k717 => kI64 .neq x715 (Value.int .i64 (.ofNat 0)) (fun x718 => k717 x718 h716)) (fun x719 h720 =>
 after (fun x721 h722 =>
 jn (fun (x724 : Value) (h725 : Hs) =>
 k227 x309 x400 x348 x347 x403 x415 x416 x721 x414 x144 x145 x146 x147 x148 x149 x150 x151 x152 x153 x154 x155 x156 x157 x158 x159 x160 x161 x724 h725) fun k723 =>
 cnd x721
 (clrK h (Value.bool false) h722)
 (k723 x404 h722)) (pickB (.c (Value.bool true)) (.c x719) enE h720 x709))))))
 (k417 x142 x404 h413)))))))))))) fun k402 =>
 cnd x400
 (kI64 .neq x348 (Value.int .i64 (.ofNat 1)) (fun x726 =>
 gdF x726 h401 (fun k727 => k727 x347 h401) (fun x728 h729 =>
 gdF x726 h729 (fun k730 => kLenV x728 (fun x731 => k730 x731 h729)) (fun x732 h733 =>
 gdF x726 h733 (fun k734 => kI64 .neq x732 (Value.int .i64 (.ofNat 0)) (fun x735 => k734 x735 h733)) (fun x736 h737 =>
 after (fun x738 h739 =>
 jn (fun (x741 : Value) (h742 : Hs) =>
 k227 x309 x400 x348 x347 x738 x140 x141 x142 x143 x144 x145 x146 x147 x148 x149 x150 x151 x152 x153 x154 x155 x156 x157 x158 x159 x160 x161 x741 h742) fun k740 =>
 cnd x738
 (clrK h (Value.bool false) h739)
 (k740 x223 h739)) (pickB (.c (Value.bool true)) (.c x736) enE h737 x726))))))
 (k402 x139 x223 h401)) (pickB (.c (Value.bool true)) (.c x398) enE h399 x386))))) (pickB (.c (Value.bool true)) (.c x384) enE h385 x372))))) (pickB (.c (Value.bool true)) (.c x370) enE h371 x351)))))))))))))))))))
 (kI64 .eql x226 (Value.int .i64 (.ofNat 1)) (fun x743 =>
 jn (fun (x745 x746 x747 x748 x749 x750 x751 x752 x753 x754 : Value) (h755 : Hs) =>
 k310 x136 x137 x138 x139 x140 x141 x142 x143 x144 x145 x146 x147 x148 x149 x150 x151 x743 x745 x746 x747 x748 x749 x750 x751 x752 x753 x754 h755) fun k744 =>
 cnd x743
 (kFieldA 2 x214 (fun x756 =>
 kLoad x756 h224 (fun x757 =>
 kI64 .lss x757 (Value.int .i64 (.ofNat 0)) (fun x758 =>
 gdF x758 h224 (fun k759 => kFieldA 2 x214 (fun x760 => k759 x760 h224)) (fun x761 h762 =>
 gdF x758 h762 (fun k763 => kLoad x761 h762 (fun x764 => k763 x764 h762)) (fun x765 h766 =>
 gdF x758 h766 (fun k767 => k767 x151 h766) (fun x768 h769 =>
 gdF x758 h769 (fun k770 => kLenV x768 (fun x771 => k770 x771 h769)) (fun x772 h773 =>
 gdF x758 h773 (fun k774 => kI64 .geq x765 x772 (fun x775 => k774 x775 h773)) (fun x776 h777 =>
 after (fun x778 h779 =>
 jn (fun (h781 : Hs) =>
 kFieldA 2 x214 (fun x782 =>
 kLoad x782 h781 (fun x783 =>
 kIdxA 1 x151 x783 (fun x784 =>
 kLoad x784 h781 (fun x785 =>
 kCall R 18 [x48, x785] h781 (fun x786 h787 =>
 kI64 .neq x786 (Value.int .i64 (.ofNat 0)) (fun x788 =>
 jn (fun (x790 : Value) (h791 : Hs) =>
 jn (fun (x793 x794 x795 x796 : Value) (h797 : Hs) =>
 kFieldA 2 x214 (fun x798 =>
 kLoad x798 h797 (fun x799 =>
 kIdxA 1 x151 x799 (fun x800 =>
 kStore1 x800 (Value.slice none 0 0) h797 (fun x801 h802 =>
 k744 x778 x788 x793 x794 x795 x796 x159 x160 x161 x790 h802))))) fun k792 =>
 lpT (T := Value → Value → Value → Value → Hs → An) (fun _ _ _ _ _ => none) N (fun k803 =>
 fun (x805 x806 x807 x808 : Value) (h809 : Hs) =>
 kFieldA 2 x214 (fun x810 =>
 kLoad x810 h809 (fun x811 =>
 kIdxA 1 x151 x811 (fun x812 =>
 kLoad x812 h809 (fun x813 =>
 kLenV x813 (fun x814 =>
 kI64 .lss x805 x814 (fun x815 =>
 jn (fun (h817 : Hs) =>
 jn (fun (x819 x820 : Value) (h821 : Hs) =>
 kI64 .add x805 (Value.int .i64 (.ofNat 1)) (fun x822 =>
 k803 x822 x815 x819 x820 h821)) fun k818 =>
 jn (fun (x824 x825 : Value) (h826 : Hs) =>
 k818 x824 x825 h826) fun k823 =>
 lpT (T := Value → Value → Hs → An) (fun _ _ _ => none) N (fun k827 =>
 fun (x829 x830 : Value) (h831 : Hs) =>
 kFieldA 2 x214 (fun x832 =>
 kLoad x832 h831 (fun x833 =>
 kIdxA 1 x151 x833 (fun x834 =>
 kLoad x834 h831 (fun x835 =>
 kIdxA 2 x835 x805 (fun x836 =>
 kFieldA 1 x836 (fun x837 =>
 kLoad x837 h831 (fun x838 =>
 kI64 .lss x829 x838 (fun x839 =>
 jn (fun (h841 : Hs) =>
 jn (fun (h843 : Hs) =>
 kI64 .add x829 (Value.int .i64 (.ofNat 1)) (fun x844 =>
 k827 x844 x839 h843)) fun k842 =>
 kLoads 1 x71 (Hs.mk h841.hp h841.nx h841.nx) (fun x845 =>
 kFieldA 2 x214 (fun x846 =>
 kLoad x846 (Hs.mk h841.hp h841.nx h841.nx) (fun x847 =>
 kIdxA 1 x151 x847 (fun x848 =>
 kLoad x848 (Hs.mk h841.hp h841.nx h841.nx) (fun x849 =>
 kIdxA 2 x849 x805 (fun x850 =>
 kFieldA 0 x850 (fun x851 =>
 kLoad x851 (Hs.mk h841.hp h841.nx h841.nx) (fun x852 =>
 kI64 .add x852 x829 (fun x853 =>
 after (fun v864 u865 => dPut (fun x854 h855 =>
 kCall R 17 [x845, (Value.bool false), x854] h855 (fun v862 u863 => dPut (fun x856 h857 =>
 kStore1 x71 x856 h857 (fun v860 u861 => dPut (fun x858 h859 =>
 k842 h859) v860 (dNext h857 u861 .bar) (andB (dFit h857 u861 .bar) (Nat.ble 0 u861.lo)))) v862 (dNext h855 u863 .bar) (andB (dFit h855 u863 .bar) (Nat.ble 0 u863.lo)))) v864 (dNext h841 u865 .light) (andB (dFit h841 u865 .light) (Nat.ble 0 u865.lo))) (oMkrow 3 1 1 [(Value.int .i64 (.ofNat 0))] [(0, 1, .c x853)] enE (Hs.mk h841.hp h841.nx h841.nx)))))))))))) fun k840 =>
 cnd x839
 (k840 h831)
 (k823 x829 x839 h831)))))))))) (Value.int .i64 (.ofNat 0)) x808 h817) fun k816 =>
 cnd x815
 (k816 h809)
 (k792 x805 x815 x807 x808 h809)))))))) (Value.int .i64 (.ofNat 0)) x156 x157 x158 h791) fun k789 =>
 cnd x788
 (clrK h (Value.bool false) h787)
 (k789 x223 h787)))))))) fun k780 =>
 cnd x778
 (k227 x309 x136 x137 x138 x139 x140 x141 x142 x143 x144 x145 x146 x147 x148 x149 x150 x151 x743 x778 x154 x155 x156 x157 x158 x159 x160 x161 x223 h779)
 (k780 h779)) (pickB (.c (Value.bool true)) (.c x776) enE h777 x758))))))))))
 (kCall R 19 [x48] h224 (fun x866 h867 =>
 kFieldA 4 x214 (fun x868 =>
 kLoad x868 h867 (fun x869 =>
 kCall R 18 [x48, x869] h867 (fun x870 h871 =>
 kI64 .eql x870 (Value.int .i64 (.ofNat 0)) (fun x872 =>
 jn (fun (x874 : Value) (h875 : Hs) =>
 kCall R 19 [x48] h875 (fun x876 h877 =>
 kI64 .neq x876 x866 (fun x878 =>
 jn (fun (x880 : Value) (h881 : Hs) =>
 k744 x153 x154 x155 x156 x157 x158 x872 x866 x878 x880 h881) fun k879 =>
 cnd x878
 (clrK h (Value.bool false) h877)
 (k879 x874 h877)))) fun k873 =>
 cnd x872
 (kCall R 19 [x48] (Hs.mk h871.hp h871.nx h871.nx) (fun v896 u897 => dPut (fun x882 h883 =>
 kFieldA 4 x214 (fun x884 =>
 kLoad x884 (dHidS .light [true, false, false, false] [none, none, some (h871.nx, h883.nx), none] h883) (fun x885 =>
 kCall R 12 [x885] h883 (fun v894 u895 => dPut (fun x886 h887 =>
 kCall R 11 [x886] h887 (fun v892 u893 => dPut (fun x888 h889 =>
 kI64 .add x866 x888 (fun x890 =>
 kI64 .eql x882 x890 (fun x891 =>
 clrK h x891 h889))) v892 (dNext h887 u893 .bar) (andB (dFit h887 u893 .bar) (Nat.ble 0 u893.lo)))) v894 (dNext h883 u895 .bar) (andB (dFit h883 u895 .bar) (Nat.ble 0 u895.lo)))))) v896 (dNext h871 u897 .light) (andB (dFit h871 u897 .light) (Nat.ble 0 u897.lo))))
 (k873 x223 h871))))))))))))) fun k222 =>
 cnd x221
 (clrK h (Value.bool true) h217)
 (k222 x167 h217)))))) (store1 5 h215 (cellsL x213) (addrOf x214))) (oAlloc 40 [(Value.int .i64 (.ofNat 0)), (Value.int .i64 (.ofNat 0)), (Value.int .i64 (.ofNat 0)), (Value.int .i64 (.ofNat 0)), (Value.slice none 0 0)] enE h172)))) fun k171 =>
 cnd x170
 (k171 h168)
 (k75 x130 x170 x132 x133 x134 x135 x136 x137 x138 x139 x140 x141 x142 x143 x144 x145 x146 x147 x148 x149 x150 x151 x152 x153 x154 x155 x156 x157 x158 x159 x160 x161 x162 x163 x164 x165 x166 x167 h168)))) (Value.int .i64 (.ofNat 0)) dunno dunno dunno dunno dunno dunno dunno dunno dunno dunno dunno dunno dunno dunno dunno dunno dunno dunno dunno dunno (Value.slice none 0 0) dunno dunno dunno dunno dunno dunno dunno dunno dunno dunno dunno dunno dunno dunno dunno x61 h74)) (oAlloc 33 [(Value.slice none 0 0)] enE h70)))))))) fun k60 =>
 cnd x58
 (clrK h (Value.bool false) h59)
 (k60 x40 h59)) (pickB (.c (Value.bool true)) (.c x56) enE h57 x50))))))) v898 (dNext h45 u899 .bar) (andB (dFit h45 u899 .bar) (Nat.ble 0 u899.lo)))) v900 (dNext h41 u901 .light) (andB (dFit h41 u901 .light) (Nat.ble 0 u901.lo)))))) fun k39 =>
 cnd x37
 (clrK h (Value.bool true) h38)
 (k39 x6 h38)) (pickB (.c (Value.bool true)) (.c x35) enE h36 x24))))) (pickB (.c (Value.bool true)) (.c x22) enE h23 x11)))))))) fun k5 =>
 cnd x4
 (clrK h (Value.bool false) h3)
 (k5 (Value.bool false) h3)))) (oBox 23 (.c a0) enE h0)
set_option maxRecDepth 100000 in
theorem q3 (R : RnK) (N : Nat) (args : List Value) (h : Hs) : r3 R N args h = callT Try.prog N R 3 args h := by kernel_rfl
noncomputable def r5 (R : RnK) (N : Nat) (args : List Value) (h : Hs) : An := unC args fun a0 sq0 => enK h fun h0 =>
 after (fun x0 h1 =>
 kFieldA 0 x0 (fun x2 =>
 kLoad x2 h1 (fun x3 =>
 kCall R 23 [x3, (Value.int .i64 (.ofNat 64)), (Value.int .i64 (.ofNat 1024))] h1 (fun x4 h5 =>
 kNot x4 (fun x6 =>
 gdF x6 h5 (fun k7 => kFieldA 1 x0 (fun x8 => k7 x8 h5)) (fun x9 h10 =>
 gdF x6 h10 (fun k11 => kLoad x9 h10 (fun x12 => k11 x12 h10)) (fun x13 h14 =>
 gdF x6 h14 (fun k15 => kCall R 23 [x13, (Value.int .i64 (.ofNat 4)), (Value.int .i64 (.ofNat 64))] h14 (k15)) (fun x16 h17 =>
 gdF x6 h17 (fun k18 => kNot x16 (fun x19 => k18 x19 h17)) (fun x20 h21 =>
 after (fun x22 h23 =>
 gdF x22 h23 (fun k24 => kFieldA 2 x0 (fun x25 => k24 x25 h23)) (fun x26 h27 =>
 gdF x22 h27 (fun k28 => kLoad x26 h27 (fun x29 => k28 x29 h27)) (fun x30 h31 =>
 gdF x22 h31 (fun k32 => kCall R 23 [x30, (Value.int .i64 (.ofNat 1)), (Value.int .i64 (.ofNat 8))] h31 (k32)) (fun x33 h34 =>
 gdF x22 h34 (fun k35 => kNot x33 (fun x36 => k35 x36 h34)) (fun x37 h38 =>
 after (fun x39 h40 =>
 gdF x39 h40 (fun k41 => kFieldA 3 x0 (fun x42 => k41 x42 h40)) (fun x43 h44 =>
 gdF x39 h44 (fun k45 => kLoad x43 h44 (fun x46 => k45 x46 h44)) (fun x47 h48 =>
 gdF x39 h48 (fun k49 => kCall R 23 [x47, (Value.int .i64 (.ofNat 16)), (Value.int .i64 (.ofNat 110))] h48 (k49)) (fun x50 h51 =>
 gdF x39 h51 (fun k52 => kNot x50 (fun x53 => k52 x53 h51)) (fun x54 h55 =>
 after (fun x56 h57 =>
 jn (fun (x59 : Value) (h60 : Hs) =>
 kLoads 4 x0 h60 (fun x61 =>
 kCall R 24 [x61] h60 (fun x62 h63 =>
 kExtr x62 0 (fun x64 =>
 kExtr x62 1 (fun x65 =>
 kI64 .geq x65 (Value.int .i64 (.ofNat 1)) (fun x66 =>
 clrK h x66 h63)))))) fun k58 =>
 cnd x56
 (clrK h (Value.bool false) h57)
 (k58 (Value.bool false) h57)) (pickB (.c (Value.bool true)) (.c x54) enE h55 x39)))))) (pickB (.c (Value.bool true)) (.c x37) enE h38 x22)))))) (pickB (.c (Value.bool true)) (.c x20) enE h21 x6)))))))))) (oBox 23 (.c a0) enE h0)
theorem q5 (R : RnK) (N : Nat) (args : List Value) (h : Hs) : r5 R N args h = callT Try.prog N R 5 args h := by kernel_rfl
noncomputable def r6 (R : RnK) (N : Nat) (args : List Value) (h : Hs) : An := unC args fun a0 sq0 => unC sq0 fun a1 sq1 => enK h fun h0 =>
 after (fun x0 h1 =>
 after (fun x2 h3 =>
 kLoads 4 x0 h3 (fun x4 =>
 kCall R 5 [x4] h3 (fun x5 h6 =>
 kNot x5 (fun x7 =>
 gdF x7 h6 (fun k8 => kFieldA 0 x2 (fun x9 => k8 x9 h6)) (fun x10 h11 =>
 gdF x7 h11 (fun k12 => kLoad x10 h11 (fun x13 => k12 x13 h11)) (fun x14 h15 =>
 gdF x7 h15 (fun k16 => kLenV x14 (fun x17 => k16 x17 h15)) (fun x18 h19 =>
 gdF x7 h19 (fun k20 => kFieldA 0 x0 (fun x21 => k20 x21 h19)) (fun x22 h23 =>
 gdF x7 h23 (fun k24 => kLoad x22 h23 (fun x25 => k24 x25 h23)) (fun x26 h27 =>
 gdF x7 h27 (fun k28 => kI64 .add x26 (Value.int .i64 (.ofNat 64)) (fun x29 => k28 x29 h27)) (fun x30 h31 =>
 gdF x7 h31 (fun k32 => kI64 .sub x30 (Value.int .i64 (.ofNat 1)) (fun x33 => k32 x33 h31)) (fun x34 h35 =>
 gdF x7 h35 (fun k36 => kI64 .quo x34 (Value.int .i64 (.ofNat 64)) (fun x37 => k36 x37 h35)) (fun x38 h39 =>
 gdF x7 h39 (fun k40 => kI64 .lss x18 x38 (fun x41 => k40 x41 h39)) (fun x42 h43 =>
 after (fun x44 h45 =>
 jn (fun (x47 x48 : Value) (h49 : Hs) =>
 kLoads 4 x0 (Hs.mk h49.hp h49.nx h49.nx) (fun x50 =>
 kLoads 1 x2 (Hs.mk h49.hp h49.nx h49.nx) (fun x51 =>
 kCall R 17 [x51, (Value.bool true), (Value.slice none 0 0)] (Hs.mk h49.hp h49.nx h49.nx) (fun v62 u63 => dPut (fun x52 h53 =>
 after (fun v60 u61 => dPut (fun x54 h55 =>
 after (fun v58 u59 => dPut (fun x56 h57 =>
 clrK h (Value.tuple #[x56, (Value.int .i64 (.ofNat 0))]) h57) v58 (dNext h55 u59 .make) (andB (dFit h55 u59 .make) (Nat.ble 0 u59.lo))) (oBox 65 (.c x54) enE (Hs.mk .e h55.nx h55.nx))) v60 (dNext h53 u61 .blind) (andB (dFit h53 u61 .blind) (Nat.ble 0 u61.lo))) (oBuild [(Value.int .i64 (.ofNat 0)), (Value.int .i64 (.ofNat 0)), (Value.int .i64 (.ofNat 0)), (Value.int .i64 (.ofNat 0)), (Value.slice none 0 0)] [(0, 4, .c x50), (4, 1, .c x52)] enE (Hs.mk .e h53.nx h53.nx))) v62 (dNext h49 u63 .light) (andB (dFit h49 u63 .light) (Nat.ble 0 u63.lo)))))) fun k46 =>
 cnd x44
 (clrK h (Value.tuple #[(Value.pointer none), (Value.int .i64 (.ofNat 1))]) h45)
 (k46 (Value.pointer none) (Value.int .i64 (.ofNat 0)) h45)) (pickB (.c (Value.bool true)) (.c x42) enE h43 x7)))))))))))))) (oBox 33 (.c a1) enE h1)) (oBox 23 (.c a0) enE h0)
theorem q6 (R : RnK) (N : Nat) (args : List Value) (h : Hs) : r6 R N args h = callT Try.prog N R 6 args h := by kernel_rfl
noncomputable def r7 (R : RnK) (N : Nat) (args : List Value) (h : Hs) : An := unC args fun a0 sq0 => enK h fun h0 =>
 after (fun x0 h1 =>
 after (fun x2 h3 =>
 kLoads 4 x0 h3 (fun x4 =>
 kCall R 8 [x4] h3 (fun x5 h6 =>
 kExtr x5 0 (fun x7 =>
 kExtr x5 1 (fun x8 =>
 kFieldA 0 x0 (fun x9 =>
 kLoad x9 h6 (fun x10 =>
 kCall R 25 [x10] h6 (fun x11 h12 =>
 after (fun x13 h14 =>
 kStore1 x13 x11 h14 (fun x15 h16 =>
 jn (fun (x18 x19 x20 : Value) (h21 : Hs) =>
 kLoads 1 x13 h21 (fun x22 =>
 kStore1 x2 x22 h21 (fun x23 h24 =>
 clearUp h (packR h24 (resV enE h24 [.cell (.c x2) 1 true]))))) fun k17 =>
 lpT (T := Value → Value → Value → Hs → An) (fun _ _ _ _ => none) N (fun k25 =>
 fun (x27 x28 x29 : Value) (h30 : Hs) =>
 kFieldA 0 x0 (fun x31 =>
 kLoad x31 h30 (fun x32 =>
 kI64 .lss x27 x32 (fun x33 =>
 jn (fun (h35 : Hs) =>
 jn (fun (x37 : Value) (h38 : Hs) =>
 kI64 .add x27 (Value.int .i64 (.ofNat 1)) (fun x39 =>
 k25 x39 x33 x37 h38)) fun k36 =>
 kI64 .lss x27 x7 (fun x40 =>
 gdF x40 h35 (fun k41 => k41 x27 h35) (fun x42 h43 =>
 gdF x40 h43 (fun k44 => k44 x7 h43) (fun x45 h46 =>
 gdF x40 h46 (fun k47 => k47 x8 h46) (fun x48 h49 =>
 gdF x40 h49 (fun k50 => kI64 .add x45 x48 (fun x51 => k50 x51 h49)) (fun x52 h53 =>
 gdF x40 h53 (fun k54 => kI64 .geq x42 x52 (fun x55 => k54 x55 h53)) (fun x56 h57 =>
 after (fun x58 h59 =>
 jn (fun (h61 : Hs) =>
 k36 x58 h61) fun k60 =>
 cnd x58
 (kLoads 1 x13 h59 (fun x62 =>
 after (fun x63 h64 =>
 kCall R 17 [x62, (Value.bool true), x63] h64 (fun x65 h66 =>
 kStore1 x13 x65 h66 (fun x67 h68 =>
 k60 h68))) (oMkrow 3 1 1 [(Value.int .i64 (.ofNat 0))] [(0, 1, .c x27)] enE h59)))
 (k60 h59)) (pickB (.c (Value.bool true)) (.c x56) enE h57 x40)))))))) fun k34 =>
 cnd x33
 (k34 h30)
 (k17 x27 x33 x29 h30))))) (Value.int .i64 (.ofNat 0)) dunno dunno h16)) (oAlloc 33 [(Value.slice none 0 0)] enE h12))))))))) (oAlloc 33 [(Value.slice none 0 0)] enE h1)) (oBox 23 (.c a0) enE h0)
theorem q7 (R : RnK) (N : Nat) (args : List Value) (h : Hs) : r7 R N args h = callT Try.prog N R 7 args h := by kernel_rfl
noncomputable def r8 (R : RnK) (N : Nat) (args : List Value) (h : Hs) : An := unC args fun a0 sq0 => enK h fun h0 =>
 after (fun x0 h1 =>
 kLoads 4 x0 h1 (fun x2 =>
 kCall R 5 [x2] h1 (fun x3 h4 =>
 kNot x3 (fun x5 =>
 jn (fun (x7 x8 : Value) (h9 : Hs) =>
 kLoads 4 x0 h9 (fun x10 =>
 kCall R 24 [x10] h9 (fun x11 h12 =>
 kExtr x11 0 (fun x13 =>
 kExtr x11 1 (fun x14 =>
 clrK h (Value.tuple #[x13, x14]) h12))))) fun k6 =>
 cnd x5
 (clrK h (Value.tuple #[(Value.int .i64 (.ofNat 0)), (Value.int .i64 (.ofNat 0))]) h4)
 (k6 (Value.int .i64 (.ofNat 0)) (Value.int .i64 (.ofNat 0)) h4))))) (oBox 23 (.c a0) enE h0)
theorem q8 (R : RnK) (N : Nat) (args : List Value) (h : Hs) : r8 R N args h = callT Try.prog N R 8 args h := by kernel_rfl
noncomputable def r9 (R : RnK) (N : Nat) (args : List Value) (h : Hs) : An := unC args fun a0 sq0 => unC sq0 fun a1 sq1 => unC sq1 fun a2 sq2 => unC sq2 fun a3 sq3 => enK h fun h0 =>
 after (fun x0 h1 =>
 kCall R 26 [a0, a1] h1 (fun x2 h3 =>
 kExtr x2 0 (fun x4 =>
 kExtr x2 1 (fun x5 =>
 after (fun x6 h7 =>
 after (fun x8 h9 =>
 kStore1 x6 x4 h9 (fun x10 h11 =>
 kStore1 x8 x5 h11 (fun x12 h13 =>
 kI64 .lss a1 (Value.int .i64 (.ofNat 0)) (fun x14 =>
 gdF x14 h13 (fun k15 => k15 a1 h13) (fun x16 h17 =>
 gdF x14 h17 (fun k18 => k18 a0 h17) (fun x19 h20 =>
 gdF x14 h20 (fun k21 => kNil x19 (fun x22 => k21 x22 h20)) (fun x23 h24 =>
 gdF x14 h24 (fun k25 => kFieldA 0 x23 (fun x26 => k25 x26 h24)) (fun x27 h28 =>
 gdF x14 h28 (fun k29 => kFieldA 2 x27 (fun x30 => k29 x30 h28)) (fun x31 h32 =>
 gdF x14 h32 (fun k33 => kLoad x31 h32 (fun x34 => k33 x34 h32)) (fun x35 h36 =>
 gdF x14 h36 (fun k37 => kI64 .geq x16 x35 (fun x38 => k37 x38 h36)) (fun x39 h40 =>
 after (fun x41 h42 =>
 gdF x41 h42 (fun k43 => kLoad x0 h42 (fun x44 => k43 x44 h42)) (fun x45 h46 =>
 gdF x41 h46 (fun k47 => kI64 .lss x45 (Value.int .i64 (.ofNat 0)) (fun x48 => k47 x48 h46)) (fun x49 h50 =>
 after (fun x51 h52 =>
 gdF x51 h52 (fun k53 => k53 a3 h52) (fun x54 h55 =>
 gdF x51 h55 (fun k56 => kI64 .lss x54 (Value.int .i64 (.ofNat 1)) (fun x57 => k56 x57 h55)) (fun x58 h59 =>
 after (fun x60 h61 =>
 jn (fun (x63 x64 : Value) (h65 : Hs) =>
 kCall R 27 [a0] h65 (fun x66 h67 =>
 after (fun x68 h69 =>
 after (fun x70 h71 =>
 kStore1 x70 x68 h71 (fun x72 h73 =>
 after (fun x74 h75 =>
 kCall R 29 [x66, x74] h75 (fun x76 h77 =>
 kLoad x0 h77 (fun x78 =>
 kCall R 32 [x66, x78] h77 (fun x79 h80 =>
 kCall R 33 [x79] (Hs.mk h80.hp h80.nx h80.nx) (fun v109 u110 => dPut (fun x81 h82 =>
 kLoad x0 (dHidS .light [false, false] [some (h80.nx, h82.nx), none] h82) (fun x83 =>
 kI64 .lss x81 x83 (fun x84 =>
 gdF x84 h82 (fun k85 => k85 x79 h82) (fun x86 _ =>
 gdF x84 h82 (fun k88 => kLenV x86 (fun x89 => k88 x89 h82)) (fun x90 _ =>
 gdF x84 h82 (fun k92 => k92 a3 h82) (fun x93 _ =>
 gdF x84 h82 (fun k95 => kI64 .gtr x90 x93 (fun x96 => k95 x96 h82)) (fun x97 _ =>
 after (fun v107 u108 => dPut (fun x99 h100 =>
 jn (fun (x102 x103 : Value) (h104 : Hs) =>
 kCall R 34 [a0, (Value.bool true), x79] h104 (fun x105 h106 =>
 clrK h (Value.tuple #[x79, (Value.int .i64 (.ofNat 0))]) h106)) fun k101 =>
 cnd x99
 (clrK h (Value.tuple #[(Value.slice none 0 0), (Value.int .i64 (.ofNat 7))]) h100)
 (k101 x63 x64 h100)) v107 (dNext h82 u108 .blind) (andB (dFit h82 u108 .blind) (Nat.ble 0 u108.lo))) (pickB (.c (Value.bool true)) (.c x97) enE (Hs.mk .e h82.nx h82.nx) x84)))))))) v109 (dNext h80 u110 .light) (andB (dFit h80 u110 .light) (Nat.ble 0 u110.lo))))))) (oMkfunc (.func 30) [] [.c x0, .c x70] enE h73))) (oAlloc 69 [Value.nilFunc] enE h69)) (oMkfunc (.func 28) [] [.c x6, .c x8] enE h67))) fun k62 =>
 cnd x60
 (clrK h (Value.tuple #[(Value.slice none 0 0), (Value.int .i64 (.ofNat 1))]) h61)
 (k62 (Value.slice none 0 0) (Value.int .i64 (.ofNat 0)) h61)) (pickB (.c (Value.bool true)) (.c x58) enE h59 x51)))) (pickB (.c (Value.bool true)) (.c x49) enE h50 x41)))) (pickB (.c (Value.bool true)) (.c x39) enE h40 x14)))))))))))) (oAlloc 3 [(Value.int .i64 (.ofNat 0))] enE h7)) (oAlloc 3 [(Value.int .i64 (.ofNat 0))] enE h3))))) (oBox 3 (.c a2) enE h0)
theorem q9 (R : RnK) (N : Nat) (args : List Value) (h : Hs) : r9 R N args h = callT Try.prog N R 9 args h := by kernel_rfl
noncomputable def r10 (R : RnK) (N : Nat) (args : List Value) (h : Hs) : An := unC args fun a0 sq0 => unC sq0 fun a1 sq1 => unC sq1 fun a2 sq2 => unC sq2 fun a3 sq3 => unC sq3 fun a4 sq4 => enK h fun h0 =>
 after (fun x0 h1 =>
 jn (fun (x3 x4 x5 x6 x7 x8 : Value) (h9 : Hs) =>
 jn (fun (x11 x12 x13 x14 x15 x16 x17 x18 x19 x20 x21 : Value) (h22 : Hs) =>
 clrK h (Value.tuple #[(Value.int .i64 (.ofNat 0)), (Value.bool true)]) h22) fun k10 =>
 lpT (T := Value → Value → Value → Value → Value → Value → Value → Value → Value → Value → Value → Hs → An) (fun _ _ _ _ _ _ _ _ _ _ _ _ => none) N (fun k23 =>
 fun (x25 x26 x27 x28 x29 x30 x31 x32 x33 x34 x35 : Value) (h36 : Hs) =>
 kI64 .gtr x25 (Value.int .i64 (.ofNat 0)) (fun x37 =>
 jn (fun (h39 : Hs) =>
 jn (fun (x41 x42 x43 x44 x45 x46 x47 x48 x49 : Value) (h50 : Hs) =>
 kI64 .add x31 (Value.int .i64 (.ofNat 1)) (fun x51 =>
 k23 x41 x37 x42 x43 x44 x45 x51 x46 x47 x48 x49 h50)) fun k40 =>
 jn (fun (x53 x54 x55 x56 : Value) (h57 : Hs) =>
 kI64 .lss x55 (Value.int .i64 (.ofNat 0)) (fun x58 =>
 gdF x58 h57 (fun k59 => k59 x8 h57) (fun x60 h61 =>
 gdF x58 h61 (fun k62 => k62 x55 h61) (fun x63 h64 =>
 gdF x58 h64 (fun k65 => kIdxA 1 x60 x63 (fun x66 => k65 x66 h64)) (fun x67 h68 =>
 gdF x58 h68 (fun k69 => kLoad x67 h68 (fun x70 => k69 x70 h68)) (fun x71 h72 =>
 gdF x58 h72 (fun k73 => kI64 .eql x71 (Value.int .i64 (.ofNat 0)) (fun x74 => k73 x74 h72)) (fun x75 h76 =>
 after (fun x77 h78 =>
 gdF x77 h78 (fun k79 => k79 x31 h78) (fun x80 h81 =>
 gdF x77 h81 (fun k82 => k82 a4 h81) (fun x83 h84 =>
 gdF x77 h84 (fun k85 => kI64 .eql x80 x83 (fun x86 => k85 x86 h84)) (fun x87 h88 =>
 after (fun x89 h90 =>
 jn (fun (x92 x93 : Value) (h94 : Hs) =>
 kIdxA 1 x8 x55 (fun x95 =>
 kLoad x95 h94 (fun x96 =>
 kI64 .sub x25 x96 (fun x97 =>
 kIdxA 1 x8 x55 (fun x98 =>
 kStore1 x98 (Value.int .i64 (.ofNat 0)) h94 (fun x99 h100 =>
 kI64 .leq x97 (Value.int .i64 (.ofNat 0)) (fun x101 =>
 jn (fun (x103 x104 : Value) (h105 : Hs) =>
 k40 x97 x53 x54 x55 x56 x89 x101 x103 x104 h105) fun k102 =>
 cnd x101
 (kI64 .add x31 (Value.int .i64 (.ofNat 1)) (fun x106 =>
 clrK h (Value.tuple #[x106, (Value.bool true)]) h100))
 (k102 x92 x93 h100)))))))) fun k91 =>
 cnd x89
 (clrK h (Value.tuple #[(Value.int .i64 (.ofNat 0)), (Value.bool false)]) h90)
 (k91 x34 x35 h90)) (pickB (.c (Value.bool true)) (.c x87) enE h88 x77))))) (pickB (.c (Value.bool true)) (.c x75) enE h76 x58)))))))) fun k52 =>
 lpT (T := Value → Value → Value → Value → Hs → An) (fun _ _ _ _ _ => none) N (fun k107 =>
 fun (x109 x110 x111 x112 : Value) (h113 : Hs) =>
 kLenV x8 (fun x114 =>
 kI64 .lss x109 x114 (fun x115 =>
 jn (fun (h117 : Hs) =>
 jn (fun (x119 x120 : Value) (h121 : Hs) =>
 kI64 .add x109 (Value.int .i64 (.ofNat 1)) (fun x122 =>
 k107 x122 x115 x119 x120 h121)) fun k118 =>
 kI64 .lss x111 (Value.int .i64 (.ofNat 0)) (fun x123 =>
 gdF x123 h117 (fun k124 => k124 x8 h117) (fun x125 _ =>
 gdF x123 h117 (fun k127 => k127 x109 h117) (fun x128 _ =>
 gdF x123 h117 (fun k130 => kIdxA 1 x125 x128 (fun x131 => k130 x131 h117)) (fun x132 _ =>
 gdF x123 h117 (fun k134 => kLoad x132 (Hs.mk h117.hp h117.nx h117.nx) (fun x135 => k134 x135 h117)) (fun x136 _ =>
 gdF x123 h117 (fun k138 => k138 x8 h117) (fun x139 _ =>
 gdF x123 h117 (fun k141 => k141 x111 h117) (fun x142 _ =>
 gdF x123 h117 (fun k144 => kIdxA 1 x139 x142 (fun x145 => k144 x145 h117)) (fun x146 _ =>
 gdF x123 h117 (fun k148 => kLoad x146 (Hs.mk h117.hp h117.nx h117.nx) (fun x149 => k148 x149 h117)) (fun x150 _ =>
 gdF x123 h117 (fun k152 => kI64 .gtr x136 x150 (fun x153 => k152 x153 h117)) (fun x154 _ =>
 after (fun v161 u162 => dPut (fun x156 h157 =>
 jn (fun (x159 : Value) (h160 : Hs) =>
 k118 x159 x156 h160) fun k158 =>
 cnd x156
 (k158 x109 h157)
 (k158 x111 h157)) v161 (dNext h117 u162 .blind) (andB (dFit h117 u162 .blind) (Nat.ble 0 u162.lo))) (pickB (.c (Value.bool true)) (.c x154) enE (Hs.mk .e h117.nx h117.nx) x123)))))))))))) fun k116 =>
 cnd x115
 (k116 h113)
 (k52 x109 x115 x111 x112 h113)))) (Value.int .i64 (.ofNat 0)) x28 (Value.int .i64 (.negSucc 0)) x30 h39) fun k38 =>
 cnd x37
 (k38 h36)
 (k10 x25 x37 x27 x28 x29 x30 x31 x32 x33 x34 x35 h36))) a3 dunno dunno dunno dunno dunno (Value.int .i64 (.ofNat 0)) dunno dunno (Value.int .i64 (.ofNat 0)) (Value.bool false) h9) fun k2 =>
 lpT (T := Value → Value → Value → Value → Value → Value → Hs → An) (fun _ _ _ _ _ _ _ => none) N (fun k163 =>
 fun (x165 x166 x167 x168 x169 x170 : Value) (h171 : Hs) =>
 kI64 .leq x165 a2 (fun x172 =>
 jn (fun (h174 : Hs) =>
 jn (fun (x176 x177 x178 x179 : Value) (h180 : Hs) =>
 kI64 .add x165 (Value.int .i64 (.ofNat 1)) (fun x181 =>
 k163 x181 x172 x176 x177 x178 x179 h180)) fun k175 =>
 kI64 .lss x165 a2 (fun x182 =>
 gdT x182 h174 (fun k183 => kLoads 1 x0 h174 (fun x184 => k183 x184 h174)) (fun x185 h186 =>
 gdT x182 h186 (fun k187 => k187 x165 h186) (fun x188 h189 =>
 gdT x182 h189 (fun k190 => kCall R 16 [x185, x188] h189 (k190)) (fun x191 h192 =>
 gdT x182 h192 (fun k193 => kNot x191 (fun x194 => k193 x194 h192)) (fun x195 h196 =>
 after (fun x197 h198 =>
 jn (fun (x200 : Value) (h201 : Hs) =>
 kI64 .gtr x200 (Value.int .i64 (.ofNat 0)) (fun x202 =>
 jn (fun (x204 : Value) (h205 : Hs) =>
 k175 x197 (Value.int .i64 (.ofNat 0)) x202 x204 h205) fun k203 =>
 cnd x202
 (after (fun x206 h207 =>
 after (fun x208 h209 =>
 k203 x208 h209) (app0 3 1 8 h207 x170 x206)) (oMkrow 3 1 1 [(Value.int .i64 (.ofNat 0))] [(0, 1, .c x200)] enE h201))
 (k203 x170 h201))) fun k199 =>
 cnd x197
 (kI64 .add x168 (Value.int .i64 (.ofNat 1)) (fun x210 =>
 k175 x197 x210 x169 x170 h198))
 (k199 x168 h198)) (pickB (.c x195) (.c (Value.bool false)) enE h196 x182))))))) fun k173 =>
 cnd x172
 (k173 h171)
 (k2 x165 x172 x167 x168 x169 x170 h171))) a1 dunno dunno (Value.int .i64 (.ofNat 0)) dunno (Value.slice none 0 0) h1) (oBox 33 (.c a0) enE h0)
theorem q10 (R : RnK) (N : Nat) (args : List Value) (h : Hs) : r10 R N args h = callT Try.prog N R 10 args h := by kernel_rfl
noncomputable def r11 (R : RnK) (N : Nat) (args : List Value) (h : Hs) : An := unC args fun a0 sq0 => enK h fun h0 =>
 kCall R 36 [a0] h0 (fun x0 h1 =>
 after (fun x2 h3 =>
 kCall R 35 [x2] h3 (fun x4 h5 =>
 clrK h x4 h5)) (oBuild [(Value.int .i64 (.ofNat 0)), (Value.int .i64 (.ofNat 0)), (Value.int .i64 (.ofNat 0)), (Value.slice none 0 0)] [(3, 1, .c x0)] enE h1))
theorem q11 (R : RnK) (N : Nat) (args : List Value) (h : Hs) : r11 R N args h = callT Try.prog N R 11 args h := by kernel_rfl
noncomputable def r12 (R : RnK) (N : Nat) (args : List Value) (h : Hs) : An := unC args fun a0 sq0 => enK h fun h0 =>
 jn (fun (x1 x2 x3 : Value) (h4 : Hs) =>
 clrK h x3 h4) fun k0 =>
 lpT (T := Value → Value → Value → Hs → An) (fun _ _ _ _ => none) N (fun k5 =>
 fun (x7 x8 x9 : Value) (h10 : Hs) =>
 kLenV a0 (fun x11 =>
 kI64 .lss x7 x11 (fun x12 =>
 jn (fun (h14 : Hs) =>
 jn (fun (x16 : Value) (h17 : Hs) =>
 kI64 .add x7 (Value.int .i64 (.ofNat 1)) (fun x18 =>
 k5 x18 x12 x16 h17)) fun k15 =>
 kIdxA 2 a0 x7 (fun x19 =>
 kFieldA 0 x19 (fun x20 =>
 kLoad x20 (Hs.mk h14.hp h14.nx h14.nx) (fun x21 =>
 kIdxA 2 a0 x7 (fun x22 =>
 kFieldA 1 x22 (fun x23 =>
 kLoad x23 (Hs.mk h14.hp h14.nx h14.nx) (fun x24 =>
 after (fun v35 u36 => dPut (fun x25 h26 =>
 after (fun v33 u34 => dPut (fun x27 h28 =>
 after (fun v31 u32 => dPut (fun x29 h30 =>
 k15 x29 h30) v31 (dNext h28 u32 .bar) (andB (dFit h28 u32 .bar) (Nat.ble 0 u32.lo))) (app0 80 2 16 h28 x9 x27)) v33 (dNext h26 u34 .bar) (andB (dFit h26 u34 .bar) (Nat.ble 0 u34.lo))) (oMkrow 80 2 1 [(Value.int .i64 (.ofNat 0)), (Value.int .i64 (.ofNat 0))] [(0, 2, .c x25)] enE h26)) v35 (dNext h14 u36 .blind) (andB (dFit h14 u36 .blind) (Nat.ble 0 u36.lo))) (oBuild [(Value.int .i64 (.ofNat 0)), (Value.int .i64 (.ofNat 0))] [(0, 1, .c x21), (1, 1, .c x24)] enE (Hs.mk .e h14.nx h14.nx))))))))) fun k13 =>
 cnd x12
 (k13 h10)
 (k0 x7 x12 x9 h10)))) (Value.int .i64 (.ofNat 0)) dunno (Value.slice none 0 0) h0
theorem q12 (R : RnK) (N : Nat) (args : List Value) (h : Hs) : r12 R N args h = callT Try.prog N R 12 args h := by kernel_rfl
noncomputable def r13 (R : RnK) (N : Nat) (args : List Value) (h : Hs) : An := unC args fun a0 sq0 => unC sq0 fun a1 sq1 => enK h fun h0 =>
 kLenV a0 (fun x0 =>
 kLenV a1 (fun x1 =>
 kI64 .neq x0 x1 (fun x2 =>
 jn (fun (x4 : Value) (h5 : Hs) =>
 jn (fun (x7 x8 x9 x10 : Value) (h11 : Hs) =>
 clrK h (Value.bool true) h11) fun k6 =>
 lpT (T := Value → Value → Value → Value → Hs → An) (fun _ _ _ _ _ => none) N (fun k12 =>
 fun (x14 x15 x16 x17 : Value) (h18 : Hs) =>
 kLenV a0 (fun x19 =>
 kI64 .lss x14 x19 (fun x20 =>
 jn (fun (h22 : Hs) =>
 jn (fun (x24 x25 : Value) (h26 : Hs) =>
 kI64 .add x14 (Value.int .i64 (.ofNat 1)) (fun x27 =>
 k12 x27 x20 x24 x25 h26)) fun k23 =>
 kIdxA 2 a0 x14 (fun x28 =>
 kLoads 2 x28 (Hs.mk h22.hp h22.nx h22.nx) (fun x29 =>
 kIdxA 2 a1 x14 (fun x30 =>
 kLoads 2 x30 (Hs.mk h22.hp h22.nx h22.nx) (fun x31 =>
 obK (fun x32 =>
 jn (fun (x34 : Value) (h35 : Hs) =>
 k23 x32 x34 h35) fun k33 =>
 cnd x32
 (clrK h (Value.bool false) h22)
 (k33 x17 h22)) (e2 true (qA [.i, .i]) x29 x31)))))) fun k21 =>
 cnd x20
 (k21 h18)
 (k6 x14 x20 x16 x17 h18)))) (Value.int .i64 (.ofNat 0)) dunno dunno x4 h5) fun k3 =>
 cnd x2
 (clrK h (Value.bool false) h0)
 (k3 (Value.bool false) h0))))
theorem q13 (R : RnK) (N : Nat) (args : List Value) (h : Hs) : r13 R N args h = callT Try.prog N R 13 args h := by kernel_rfl
noncomputable def r14 (R : RnK) (N : Nat) (args : List Value) (h : Hs) : An := unC args fun a0 sq0 => enK h fun h0 =>
 kCall R 36 [a0] h0 (fun x0 h1 =>
 jn (fun (x3 x4 x5 x6 x7 : Value) (h8 : Hs) =>
 clrK h x5 h8) fun k2 =>
 lpT (T := Value → Value → Value → Value → Value → Hs → An) (fun _ _ _ _ _ _ => none) N (fun k9 =>
 fun (x11 x12 x13 x14 x15 : Value) (h16 : Hs) =>
 kLenV x0 (fun x17 =>
 kI64 .lss x11 x17 (fun x18 =>
 jn (fun (h20 : Hs) =>
 jn (fun (x22 x23 x24 : Value) (h25 : Hs) =>
 kI64 .add x11 (Value.int .i64 (.ofNat 1)) (fun x26 =>
 k9 x26 x18 x22 x23 x24 h25)) fun k21 =>
 kLenV x13 (fun x27 =>
 kI64 .gtr x27 (Value.int .i64 (.ofNat 0)) (fun x28 =>
 gdT x28 h20 (fun k29 => k29 x13 h20) (fun x30 _ =>
 gdT x28 h20 (fun k32 => k32 x27 h20) (fun x33 _ =>
 gdT x28 h20 (fun k35 => kI64 .sub x33 (Value.int .i64 (.ofNat 1)) (fun x36 => k35 x36 h20)) (fun x37 _ =>
 gdT x28 h20 (fun k39 => kIdxA 2 x30 x37 (fun x40 => k39 x40 h20)) (fun x41 _ =>
 gdT x28 h20 (fun k43 => kFieldA 0 x41 (fun x44 => k43 x44 h20)) (fun x45 _ =>
 gdT x28 h20 (fun k47 => kLoad x45 (Hs.mk h20.hp h20.nx h20.nx) (fun x48 => k47 x48 h20)) (fun x49 _ =>
 gdT x28 h20 (fun k51 => k51 x13 h20) (fun x52 _ =>
 gdT x28 h20 (fun k54 => k54 x27 h20) (fun x55 _ =>
 gdT x28 h20 (fun k57 => kI64 .sub x55 (Value.int .i64 (.ofNat 1)) (fun x58 => k57 x58 h20)) (fun x59 _ =>
 gdT x28 h20 (fun k61 => kIdxA 2 x52 x59 (fun x62 => k61 x62 h20)) (fun x63 _ =>
 gdT x28 h20 (fun k65 => kFieldA 1 x63 (fun x66 => k65 x66 h20)) (fun x67 _ =>
 gdT x28 h20 (fun k69 => kLoad x67 (Hs.mk h20.hp h20.nx h20.nx) (fun x70 => k69 x70 h20)) (fun x71 _ =>
 gdT x28 h20 (fun k73 => kI64 .add x49 x71 (fun x74 => k73 x74 h20)) (fun x75 _ =>
 gdT x28 h20 (fun k77 => k77 x0 h20) (fun x78 _ =>
 gdT x28 h20 (fun k80 => k80 x11 h20) (fun x81 _ =>
 gdT x28 h20 (fun k83 => kIdxA 2 x78 x81 (fun x84 => k83 x84 h20)) (fun x85 _ =>
 gdT x28 h20 (fun k87 => kFieldA 0 x85 (fun x88 => k87 x88 h20)) (fun x89 _ =>
 gdT x28 h20 (fun k91 => kLoad x89 (Hs.mk h20.hp h20.nx h20.nx) (fun x92 => k91 x92 h20)) (fun x93 _ =>
 gdT x28 h20 (fun k95 => kI64 .eql x75 x93 (fun x96 => k95 x96 h20)) (fun x97 _ =>
 after (fun v125 u126 => dPut (fun x99 h100 =>
 jn (fun (x102 : Value) (h103 : Hs) =>
 k21 x102 x27 x99 h103) fun k101 =>
 cnd x99
 (kI64 .sub x27 (Value.int .i64 (.ofNat 1)) (fun x104 =>
 kI64 .sub x27 (Value.int .i64 (.ofNat 1)) (fun x105 =>
 kIdxA 2 x13 x105 (fun x106 =>
 kFieldA 1 x106 (fun x107 =>
 kLoad x107 (Hs.mk h100.hp h100.nx h100.nx) (fun x108 =>
 kIdxA 2 x0 x11 (fun x109 =>
 kFieldA 1 x109 (fun x110 =>
 kLoad x110 (Hs.mk h100.hp h100.nx h100.nx) (fun x111 =>
 kI64 .add x108 x111 (fun x112 =>
 kIdxA 2 x13 x104 (fun x113 =>
 kFieldA 1 x113 (fun x114 =>
 kStore1 x114 x112 h100 (fun v117 u118 => dPut (fun x115 h116 =>
 k101 x13 h116) v117 (dNext h100 u118 .bar) (andB (dFit h100 u118 .bar) (Nat.ble 0 u118.lo)))))))))))))))
 (kIdxA 2 x0 x11 (fun x119 =>
 kLoads 2 x119 h100 (fun x120 =>
 after (fun x121 h122 =>
 after (fun x123 h124 =>
 k101 x123 h124) (app0 80 2 16 h122 x13 x121)) (oMkrow 80 2 1 [(Value.int .i64 (.ofNat 0)), (Value.int .i64 (.ofNat 0))] [(0, 2, .c x120)] enE h100))))) v125 (dNext h20 u126 .blind) (andB (dFit h20 u126 .blind) (Nat.ble 0 u126.lo))) (pickB (.c x97) (.c (Value.bool false)) enE (Hs.mk .e h20.nx h20.nx) x28))))))))))))))))))))))) fun k19 =>
 cnd x18
 (k19 h16)
 (k2 x11 x18 x13 x14 x15 h16)))) (Value.int .i64 (.ofNat 0)) dunno (Value.slice none 0 0) dunno dunno h1)
theorem q14 (R : RnK) (N : Nat) (args : List Value) (h : Hs) : r14 R N args h = callT Try.prog N R 14 args h := by kernel_rfl
noncomputable def r15 (R : RnK) (N : Nat) (args : List Value) (h : Hs) : An := unC args fun a0 sq0 => enK h fun h0 =>
 jn (fun (x1 x2 x3 x4 x5 x6 : Value) (h7 : Hs) =>
 clrK h (Value.bool true) h7) fun k0 =>
 lpT (T := Value → Value → Value → Value → Value → Value → Hs → An) (fun _ _ _ _ _ _ _ => none) N (fun k8 =>
 fun (x10 x11 x12 x13 x14 x15 : Value) (h16 : Hs) =>
 kLenV a0 (fun x17 =>
 kI64 .lss x10 x17 (fun x18 =>
 jn (fun (h20 : Hs) =>
 jn (fun (x22 x23 x24 x25 : Value) (h26 : Hs) =>
 kI64 .add x10 (Value.int .i64 (.ofNat 1)) (fun x27 =>
 k8 x27 x18 x22 x23 x24 x25 h26)) fun k21 =>
 jn (fun (x29 x30 x31 x32 : Value) (h33 : Hs) =>
 k21 x29 x30 x31 x32 h33) fun k28 =>
 lpT (T := Value → Value → Value → Value → Hs → An) (fun _ _ _ _ _ => none) N (fun k34 =>
 fun (x36 x37 x38 x39 : Value) (h40 : Hs) =>
 kI64 .lss x36 x10 (fun x41 =>
 jn (fun (h43 : Hs) =>
 jn (fun (x45 x46 : Value) (h47 : Hs) =>
 kI64 .add x36 (Value.int .i64 (.ofNat 1)) (fun x48 =>
 k34 x48 x41 x45 x46 h47)) fun k44 =>
 kIdxA 2 a0 x10 (fun x49 =>
 kFieldA 0 x49 (fun x50 =>
 kLoad x50 (Hs.mk h43.hp h43.nx h43.nx) (fun x51 =>
 kIdxA 2 a0 x36 (fun x52 =>
 kFieldA 0 x52 (fun x53 =>
 kLoad x53 (Hs.mk h43.hp h43.nx h43.nx) (fun x54 =>
 kIdxA 2 a0 x36 (fun x55 =>
 kFieldA 1 x55 (fun x56 =>
 kLoad x56 (Hs.mk h43.hp h43.nx h43.nx) (fun x57 =>
 kI64 .add x54 x57 (fun x58 =>
 kI64 .lss x51 x58 (fun x59 =>
 gdT x59 h43 (fun k60 => k60 a0 h43) (fun x61 _ =>
 gdT x59 h43 (fun k63 => k63 x36 h43) (fun x64 _ =>
 gdT x59 h43 (fun k66 => kIdxA 2 x61 x64 (fun x67 => k66 x67 h43)) (fun x68 _ =>
 gdT x59 h43 (fun k70 => kFieldA 0 x68 (fun x71 => k70 x71 h43)) (fun x72 _ =>
 gdT x59 h43 (fun k74 => kLoad x72 (Hs.mk h43.hp h43.nx h43.nx) (fun x75 => k74 x75 h43)) (fun x76 _ =>
 gdT x59 h43 (fun k78 => k78 a0 h43) (fun x79 _ =>
 gdT x59 h43 (fun k81 => k81 x10 h43) (fun x82 _ =>
 gdT x59 h43 (fun k84 => kIdxA 2 x79 x82 (fun x85 => k84 x85 h43)) (fun x86 _ =>
 gdT x59 h43 (fun k88 => kFieldA 0 x86 (fun x89 => k88 x89 h43)) (fun x90 _ =>
 gdT x59 h43 (fun k92 => kLoad x90 (Hs.mk h43.hp h43.nx h43.nx) (fun x93 => k92 x93 h43)) (fun x94 _ =>
 gdT x59 h43 (fun k96 => k96 a0 h43) (fun x97 _ =>
 gdT x59 h43 (fun k99 => k99 x10 h43) (fun x100 _ =>
 gdT x59 h43 (fun k102 => kIdxA 2 x97 x100 (fun x103 => k102 x103 h43)) (fun x104 _ =>
 gdT x59 h43 (fun k106 => kFieldA 1 x104 (fun x107 => k106 x107 h43)) (fun x108 _ =>
 gdT x59 h43 (fun k110 => kLoad x108 (Hs.mk h43.hp h43.nx h43.nx) (fun x111 => k110 x111 h43)) (fun x112 _ =>
 gdT x59 h43 (fun k114 => kI64 .add x94 x112 (fun x115 => k114 x115 h43)) (fun x116 _ =>
 gdT x59 h43 (fun k118 => kI64 .lss x76 x116 (fun x119 => k118 x119 h43)) (fun x120 _ =>
 after (fun v127 u128 => dPut (fun x122 h123 =>
 jn (fun (x125 : Value) (h126 : Hs) =>
 k44 x122 x125 h126) fun k124 =>
 cnd x122
 (clrK h (Value.bool false) h123)
 (k124 x39 h123)) v127 (dNext h43 u128 .blind) (andB (dFit h43 u128 .blind) (Nat.ble 0 u128.lo))) (pickB (.c x120) (.c (Value.bool false)) enE (Hs.mk .e h43.nx h43.nx) x59)))))))))))))))))))))))))))))) fun k42 =>
 cnd x41
 (k42 h40)
 (k28 x36 x41 x38 x39 h40))) (Value.int .i64 (.ofNat 0)) x13 x14 x15 h20) fun k19 =>
 cnd x18
 (k19 h16)
 (k0 x10 x18 x12 x13 x14 x15 h16)))) (Value.int .i64 (.ofNat 0)) dunno dunno dunno dunno (Value.bool false) h0
theorem q15 (R : RnK) (N : Nat) (args : List Value) (h : Hs) : r15 R N args h = callT Try.prog N R 15 args h := by kernel_rfl
noncomputable def r16 (R : RnK) (N : Nat) (args : List Value) (h : Hs) : An := unC args fun a0 sq0 => unC sq0 fun a1 sq1 => enK h fun h0 =>
 after (fun x0 h1 =>
 kLoads 1 x0 h1 (fun x2 =>
 kCall R 37 [x2, a1] h1 (fun x3 h4 =>
 gdT x3 h4 (fun k5 => kFieldA 0 x0 (fun x6 => k5 x6 h4)) (fun x7 h8 =>
 gdT x3 h8 (fun k9 => kLoad x7 h8 (fun x10 => k9 x10 h8)) (fun x11 h12 =>
 gdT x3 h12 (fun k13 => k13 a1 h12) (fun x14 h15 =>
 gdT x3 h15 (fun k16 => kI64 .quo x14 (Value.int .i64 (.ofNat 64)) (fun x17 => k16 x17 h15)) (fun x18 h19 =>
 gdT x3 h19 (fun k20 => kIdxA 1 x11 x18 (fun x21 => k20 x21 h19)) (fun x22 h23 =>
 gdT x3 h23 (fun k24 => kLoad x22 h23 (fun x25 => k24 x25 h23)) (fun x26 h27 =>
 gdT x3 h27 (fun k28 => k28 a1 h27) (fun x29 h30 =>
 gdT x3 h30 (fun k31 => kI64 .rem x29 (Value.int .i64 (.ofNat 64)) (fun x32 => k31 x32 h30)) (fun x33 h34 =>
 gdT x3 h34 (fun k35 => kShr x26 x33 (fun x36 => k35 x36 h34)) (fun x37 h38 =>
 gdT x3 h38 (fun k39 => kU64 .and x37 (Value.int .u64 (.ofNat 1)) (fun x40 => k39 x40 h38)) (fun x41 h42 =>
 gdT x3 h42 (fun k43 => kU64 .eql x41 (Value.int .u64 (.ofNat 1)) (fun x44 => k43 x44 h42)) (fun x45 h46 =>
 after (fun x47 h48 =>
 clrK h x47 h48) (pickB (.c x45) (.c (Value.bool false)) enE h46 x3))))))))))))))) (oBox 33 (.c a0) enE h0)
theorem q16 (R : RnK) (N : Nat) (args : List Value) (h : Hs) : r16 R N args h = callT Try.prog N R 16 args h := by kernel_rfl
noncomputable def r17 (R : RnK) (N : Nat) (args : List Value) (h : Hs) : An := unC args fun a0 sq0 => unC sq0 fun a1 sq1 => unC sq1 fun a2 sq2 => enK h fun h0 =>
 after (fun x0 h1 =>
 after (fun x2 h3 =>
 kFieldA 0 x0 (fun x4 =>
 kLoad x4 h3 (fun x5 =>
 kCall R 38 [x5] h3 (fun x6 h7 =>
 after (fun x8 h9 =>
 after (fun x10 h11 =>
 kStore1 x10 x8 h11 (fun x12 h13 =>
 kLenV a2 (fun x14 =>
 jn (fun (x16 x17 x18 x19 x20 : Value) (h21 : Hs) =>
 kLoads 1 x10 h21 (fun x22 =>
 kStore1 x2 x22 h21 (fun x23 h24 =>
 clearUp h (packR h24 (resV enE h24 [.cell (.c x2) 1 true]))))) fun k15 =>
 lpT (T := Value → Value → Value → Value → Value → Hs → An) (fun _ _ _ _ _ _ => none) N (fun k25 =>
 fun (x27 x28 x29 x30 x31 : Value) (h32 : Hs) =>
 kI64 .lss x27 x14 (fun x33 =>
 jn (fun (h35 : Hs) =>
 jn (fun (x37 x38 x39 : Value) (h40 : Hs) =>
 kI64 .add x27 (Value.int .i64 (.ofNat 1)) (fun x41 =>
 k25 x41 x33 x37 x38 x39 h40)) fun k36 =>
 kIdxA 1 a2 x27 (fun x42 =>
 kLoad x42 h35 (fun x43 =>
 kLoads 1 x0 h35 (fun x44 =>
 kCall R 37 [x44, x43] h35 (fun x45 h46 =>
 kNot x45 (fun x47 =>
 jn (fun (h49 : Hs) =>
 kFieldA 0 x10 (fun x50 =>
 kLoad x50 h49 (fun x51 =>
 kI64 .quo x43 (Value.int .i64 (.ofNat 64)) (fun x52 =>
 kIdxA 1 x51 x52 (fun x53 =>
 kLoad x53 h49 (fun x54 =>
 kI64 .rem x43 (Value.int .i64 (.ofNat 64)) (fun x55 =>
 kShl (Value.int .u64 (.ofNat 1)) x55 (fun x56 =>
 kU64 .andNot x54 x56 (fun x57 =>
 kIdxA 1 x51 x52 (fun x58 =>
 kStore1 x58 x57 h49 (fun v76 u77 => dPut (fun x59 h60 =>
 jn (fun (h62 : Hs) =>
 k36 x43 x47 a1 h62) fun k61 =>
 cnd a1
 (kFieldA 0 x10 (fun x63 =>
 kLoad x63 h60 (fun x64 =>
 kI64 .quo x43 (Value.int .i64 (.ofNat 64)) (fun x65 =>
 kIdxA 1 x64 x65 (fun x66 =>
 kLoad x66 h60 (fun x67 =>
 kI64 .rem x43 (Value.int .i64 (.ofNat 64)) (fun x68 =>
 kShl (Value.int .u64 (.ofNat 1)) x68 (fun x69 =>
 kU64 .or x67 x69 (fun x70 =>
 kIdxA 1 x64 x65 (fun x71 =>
 kStore1 x71 x70 h60 (fun v74 u75 => dPut (fun x72 h73 =>
 k61 h73) v74 (dNext h60 u75 .bar) (andB (dFit h60 u75 .bar) (Nat.ble 0 u75.lo)))))))))))))
 (k61 h60)) v76 (dNext h49 u77 .bar) (andB (dFit h49 u77 .bar) (Nat.ble 0 u77.lo))))))))))))) fun k48 =>
 cnd x47
 (k36 x43 x47 x31 h46)
 (k48 h46))))))) fun k34 =>
 cnd x33
 (k34 h32)
 (k15 x27 x33 x29 x30 x31 h32))) (Value.int .i64 (.ofNat 0)) dunno dunno dunno dunno h13))) (oAlloc 33 [(Value.slice none 0 0)] enE h9)) (oBuild [(Value.slice none 0 0)] [(0, 1, .c x6)] enE h7))))) (oAlloc 33 [(Value.slice none 0 0)] enE h1)) (oBox 33 (.c a0) enE h0)
theorem q17 (R : RnK) (N : Nat) (args : List Value) (h : Hs) : r17 R N args h = callT Try.prog N R 17 args h := by kernel_rfl
noncomputable def r18 (R : RnK) (N : Nat) (args : List Value) (h : Hs) : An := unC args fun a0 sq0 => unC sq0 fun a1 sq1 => enK h fun h0 =>
 kNil a0 (fun x0 =>
 kFieldA 0 x0 (fun x1 =>
 kLoads 4 x1 h0 (fun x2 =>
 kCall R 8 [x2] h0 (fun x3 h4 =>
 kExtr x3 0 (fun x5 =>
 kExtr x3 1 (fun x6 =>
 kLenV a1 (fun x7 =>
 jn (fun (x9 x10 x11 x12 x13 x14 x15 x16 x17 : Value) (h18 : Hs) =>
 kCall R 34 [a0, (Value.bool false), a1] h18 (fun x19 h20 =>
 clrK h (Value.int .i64 (.ofNat 0)) h20)) fun k8 =>
 lpT (T := Value → Value → Value → Value → Value → Value → Value → Value → Value → Hs → An) (fun _ _ _ _ _ _ _ _ _ _ => none) N (fun k21 =>
 fun (x23 x24 x25 x26 x27 x28 x29 x30 x31 : Value) (h32 : Hs) =>
 kI64 .lss x23 x7 (fun x33 =>
 jn (fun (h35 : Hs) =>
 jn (fun (x37 x38 x39 x40 x41 x42 x43 : Value) (h44 : Hs) =>
 kI64 .add x23 (Value.int .i64 (.ofNat 1)) (fun x45 =>
 k21 x45 x33 x37 x38 x39 x40 x41 x42 x43 h44)) fun k36 =>
 kIdxA 2 a1 x23 (fun x46 =>
 kLoads 2 x46 h35 (fun x47 =>
 after (fun x48 h49 =>
 after (fun x50 h51 =>
 kFieldA 1 x48 (fun x52 =>
 kLoad x52 h51 (fun x53 =>
 kI64 .lss x53 (Value.int .i64 (.ofNat 1)) (fun x54 =>
 jn (fun (h56 : Hs) =>
 kFieldA 0 x48 (fun x57 =>
 kLoad x57 h56 (fun x58 =>
 kI64 .lss x58 x5 (fun x59 =>
 gdF x59 h56 (fun k60 => kFieldA 0 x48 (fun x61 => k60 x61 h56)) (fun x62 h63 =>
 gdF x59 h63 (fun k64 => kLoad x62 h63 (fun x65 => k64 x65 h63)) (fun x66 h67 =>
 gdF x59 h67 (fun k68 => k68 x5 h67) (fun x69 h70 =>
 gdF x59 h70 (fun k71 => kI64 .sub x66 x69 (fun x72 => k71 x72 h70)) (fun x73 h74 =>
 gdF x59 h74 (fun k75 => k75 x6 h74) (fun x76 h77 =>
 gdF x59 h77 (fun k78 => kI64 .geq x73 x76 (fun x79 => k78 x79 h77)) (fun x80 h81 =>
 after (fun x82 h83 =>
 gdF x82 h83 (fun k84 => kFieldA 1 x48 (fun x85 => k84 x85 h83)) (fun x86 h87 =>
 gdF x82 h87 (fun k88 => kLoad x86 h87 (fun x89 => k88 x89 h87)) (fun x90 h91 =>
 gdF x82 h91 (fun k92 => k92 x6 h91) (fun x93 h94 =>
 gdF x82 h94 (fun k95 => kFieldA 0 x48 (fun x96 => k95 x96 h94)) (fun x97 h98 =>
 gdF x82 h98 (fun k99 => kLoad x97 h98 (fun x100 => k99 x100 h98)) (fun x101 h102 =>
 gdF x82 h102 (fun k103 => k103 x5 h102) (fun x104 h105 =>
 gdF x82 h105 (fun k106 => kI64 .sub x101 x104 (fun x107 => k106 x107 h105)) (fun x108 h109 =>
 gdF x82 h109 (fun k110 => kI64 .sub x93 x108 (fun x111 => k110 x111 h109)) (fun x112 h113 =>
 gdF x82 h113 (fun k114 => kI64 .gtr x90 x112 (fun x115 => k114 x115 h113)) (fun x116 h117 =>
 after (fun x118 h119 =>
 gdF x118 h119 (fun k120 => k120 a1 h119) (fun x121 h122 =>
 gdF x118 h122 (fun k123 => k123 x23 h122) (fun x124 h125 =>
 gdF x118 h125 (fun k126 => kI64 .add x124 (Value.int .i64 (.ofNat 1)) (fun x127 => k126 x127 h125)) (fun x128 h129 =>
 gdF x118 h129 (fun k130 => after (k130) (oSlice 2 (.c x121) none (some (.c x128)) none enE h129)) (fun x131 h132 =>
 gdF x118 h132 (fun k133 => kCall R 39 [x131] h132 (k133)) (fun x134 h135 =>
 gdF x118 h135 (fun k136 => kNot x134 (fun x137 => k136 x137 h135)) (fun x138 h139 =>
 after (fun x140 h141 =>
 jn (fun (x143 : Value) (h144 : Hs) =>
 kNil a0 (fun x145 =>
 kFieldA 4 x145 (fun x146 =>
 kLoads 1 x146 (Hs.mk h144.hp h144.nx h144.nx) (fun x147 =>
 kFieldA 0 x48 (fun x148 =>
 kLoad x148 (Hs.mk h144.hp h144.nx h144.nx) (fun x149 =>
 kFieldA 0 x48 (fun x150 =>
 kLoad x150 (Hs.mk h144.hp h144.nx h144.nx) (fun x151 =>
 kFieldA 1 x48 (fun x152 =>
 kLoad x152 (Hs.mk h144.hp h144.nx h144.nx) (fun x153 =>
 kI64 .add x151 x153 (fun x154 =>
 kCall R 40 [x147, (Value.bool false), x149, x154] h144 (fun v162 u163 => dPut (fun x155 h156 =>
 kExtr x155 0 (fun x157 =>
 kExtr x155 1 (fun x158 =>
 jn (fun (x160 : Value) (h161 : Hs) =>
 k36 x48 x54 x23 x140 x158 x158 x160 h161) fun k159 =>
 cnd x158
 (clrK h (Value.int .i64 (.ofNat 1)) h156)
 (k159 x143 h156)))) v162 (dNext h144 u163 .bar) (andB (dFit h144 u163 .bar) (Nat.ble 0 u163.lo)))))))))))))) fun k142 =>
 cnd x140
 (clrK h (Value.int .i64 (.ofNat 1)) h141)
 (k142 x31 h141)) (pickB (.c (Value.bool true)) (.c x138) enE h139 x118)))))))) (pickB (.c (Value.bool true)) (.c x116) enE h117 x82))))))))))) (pickB (.c (Value.bool true)) (.c x80) enE h81 x59))))))))))) fun k55 =>
 cnd x54
 (k36 x48 x54 x23 x28 x29 x30 x31 h51)
 (k55 h51))))) (store1 2 h49 (cellsL x47) (addrOf x48))) (oAlloc 52 [(Value.int .i64 (.ofNat 0)), (Value.int .i64 (.ofNat 0))] enE h35)))) fun k34 =>
 cnd x33
 (k34 h32)
 (k8 x23 x33 x25 x26 x27 x28 x29 x30 x31 h32))) (Value.int .i64 (.ofNat 0)) dunno dunno dunno dunno dunno dunno dunno (Value.int .i64 (.ofNat 0)) h4)))))))
theorem q18 (R : RnK) (N : Nat) (args : List Value) (h : Hs) : r18 R N args h = callT Try.prog N R 18 args h := by kernel_rfl
noncomputable def r19 (R : RnK) (N : Nat) (args : List Value) (h : Hs) : An := unC args fun a0 sq0 => enK h fun h0 =>
 kCall R 27 [a0] h0 (fun x0 h1 =>
 kCall R 33 [x0] h1 (fun x2 h3 =>
 clrK h x2 h3))
theorem q19 (R : RnK) (N : Nat) (args : List Value) (h : Hs) : r19 R N args h = callT Try.prog N R 19 args h := by kernel_rfl
noncomputable def r20 (R : RnK) (N : Nat) (args : List Value) (h : Hs) : An := unC args fun a0 sq0 => enK h fun h0 =>
 after (fun x0 h1 =>
 kNil a0 (fun x2 =>
 kFieldA 4 x2 (fun x3 =>
 kLoads 1 x3 h1 (fun x4 =>
 kCall R 17 [x4, (Value.bool true), (Value.slice none 0 0)] h1 (fun x5 h6 =>
 kStore1 x0 x5 h6 (fun x7 h8 =>
 clearUp h (packR h8 (resV enE h8 [.cell (.c x0) 1 true])))))))) (oAlloc 33 [(Value.slice none 0 0)] enE h0)
theorem q20 (R : RnK) (N : Nat) (args : List Value) (h : Hs) : r20 R N args h = callT Try.prog N R 20 args h := by kernel_rfl
noncomputable def r21 (R : RnK) (N : Nat) (args : List Value) (h : Hs) : An := unC args fun a0 sq0 => enK h fun h0 =>
 after (fun x0 h1 =>
 kFieldA 0 x0 (fun x2 =>
 kLoad x2 h1 (fun x3 =>
 kLenV x3 (fun x4 =>
 kI64 .mul (Value.int .i64 (.ofNat 64)) x4 (fun x5 =>
 jn (fun (x7 x8 x9 x10 x11 : Value) (h12 : Hs) =>
 clrK h x11 h12) fun k6 =>
 lpT (T := Value → Value → Value → Value → Value → Hs → An) (fun _ _ _ _ _ _ => none) N (fun k13 =>
 fun (x15 x16 x17 x18 x19 : Value) (h20 : Hs) =>
 kI64 .lss x15 x5 (fun x21 =>
 jn (fun (h23 : Hs) =>
 jn (fun (x25 x26 x27 : Value) (h28 : Hs) =>
 kI64 .add x15 (Value.int .i64 (.ofNat 1)) (fun x29 =>
 k13 x29 x21 x25 x26 x27 h28)) fun k24 =>
 kLoads 1 x0 h23 (fun x30 =>
 kCall R 16 [x30, x15] h23 (fun x31 h32 =>
 jn (fun (x34 : Value) (h35 : Hs) =>
 k24 x15 x31 x34 h35) fun k33 =>
 cnd x31
 (kI64 .add x19 (Value.int .i64 (.ofNat 1)) (fun x36 =>
 k33 x36 h32))
 (k33 x19 h32)))) fun k22 =>
 cnd x21
 (k22 h20)
 (k6 x15 x21 x17 x18 x19 h20))) (Value.int .i64 (.ofNat 0)) dunno dunno dunno (Value.int .i64 (.ofNat 0)) h1))))) (oBox 33 (.c a0) enE h0)
theorem q21 (R : RnK) (N : Nat) (args : List Value) (h : Hs) : r21 R N args h = callT Try.prog N R 21 args h := by kernel_rfl
noncomputable def r23 (R : RnK) (N : Nat) (args : List Value) (h : Hs) : An := unC args fun a0 sq0 => unC sq0 fun a1 sq1 => unC sq1 fun a2 sq2 => enK h fun h0 =>
 kI64 .geq a0 a1 (fun x0 =>
 gdT x0 h0 (fun k1 => k1 a0 h0) (fun x2 h3 =>
 gdT x0 h3 (fun k4 => k4 a2 h3) (fun x5 h6 =>
 gdT x0 h6 (fun k7 => kI64 .leq x2 x5 (fun x8 => k7 x8 h6)) (fun x9 h10 =>
 after (fun x11 h12 =>
 clrK h x11 h12) (pickB (.c x9) (.c (Value.bool false)) enE h10 x0)))))
theorem q23 (R : RnK) (N : Nat) (args : List Value) (h : Hs) : r23 R N args h = callT Try.prog N R 23 args h := by kernel_rfl
noncomputable def r24 (R : RnK) (N : Nat) (args : List Value) (h : Hs) : An := unC args fun a0 sq0 => enK h fun h0 =>
 after (fun x0 h1 =>
 kLoads 4 x0 h1 (fun x2 =>
 kCall R 41 [x2] h1 (fun x3 h4 =>
 kExtr x3 0 (fun x5 =>
 kExtr x3 1 (fun x6 =>
 kI64 .add x5 x6 (fun x7 =>
 kFieldA 1 x0 (fun x8 =>
 kLoad x8 h4 (fun x9 =>
 kI64 .mul (Value.int .i64 (.ofNat 2)) x9 (fun x10 =>
 kI64 .add x7 x10 (fun x11 =>
 kFieldA 0 x0 (fun x12 =>
 kLoad x12 h4 (fun x13 =>
 kI64 .sub x13 (Value.int .i64 (.ofNat 1)) (fun x14 =>
 kI64 .sub x14 x11 (fun x15 =>
 clrK h (Value.tuple #[x11, x15]) h4)))))))))))))) (oBox 23 (.c a0) enE h0)
theorem q24 (R : RnK) (N : Nat) (args : List Value) (h : Hs) : r24 R N args h = callT Try.prog N R 24 args h := by kernel_rfl
noncomputable def r25 (R : RnK) (N : Nat) (args : List Value) (h : Hs) : An := unC args fun a0 sq0 => enK h fun h0 =>
 after (fun x0 h1 =>
 after (fun x2 h3 =>
 after (fun x4 h5 =>
 kI64 .add x4 (Value.int .i64 (.ofNat 64)) (fun x6 =>
 kI64 .sub x6 (Value.int .i64 (.ofNat 1)) (fun x7 =>
 kI64 .quo x7 (Value.int .i64 (.ofNat 64)) (fun x8 =>
 after (fun x9 h10 =>
 after (fun x11 h12 =>
 kStore1 x0 x11 h12 (fun x13 h14 =>
 clearUp h (packR h14 (resV enE h14 [.cell (.c x0) 1 true])))) (oBuild [(Value.slice none 0 0)] [(0, 1, .c x9)] enE h10)) (mkslice1 58 1 8 [(Value.int .u64 (.ofNat 0))] h5 (natOf x8) (natOf x8)))))) (oMinmax false [.c x2, .c (Value.int .i64 (.ofNat 65536))] enE h3)) (oMinmax true [.c a0, .c (Value.int .i64 (.ofNat 0))] enE h1)) (oAlloc 33 [(Value.slice none 0 0)] enE h0)
theorem q25 (R : RnK) (N : Nat) (args : List Value) (h : Hs) : r25 R N args h = callT Try.prog N R 25 args h := by kernel_rfl
noncomputable def r26 (R : RnK) (N : Nat) (args : List Value) (h : Hs) : An := unC args fun a0 sq0 => unC sq0 fun a1 sq1 => enK h fun h0 =>
 kI64 .lss a1 (Value.int .i64 (.ofNat 0)) (fun x0 =>
 gdF x0 h0 (fun k1 => k1 a1 h0) (fun x2 h3 =>
 gdF x0 h3 (fun k4 => k4 a0 h3) (fun x5 h6 =>
 gdF x0 h6 (fun k7 => kNil x5 (fun x8 => k7 x8 h6)) (fun x9 h10 =>
 gdF x0 h10 (fun k11 => kFieldA 0 x9 (fun x12 => k11 x12 h10)) (fun x13 h14 =>
 gdF x0 h14 (fun k15 => kFieldA 2 x13 (fun x16 => k15 x16 h14)) (fun x17 h18 =>
 gdF x0 h18 (fun k19 => kLoad x17 h18 (fun x20 => k19 x20 h18)) (fun x21 h22 =>
 gdF x0 h22 (fun k23 => kI64 .geq x2 x21 (fun x24 => k23 x24 h22)) (fun x25 h26 =>
 after (fun x27 h28 =>
 jn (fun (x30 x31 : Value) (h32 : Hs) =>
 kNil a0 (fun x33 =>
 kFieldA 0 x33 (fun x34 =>
 kLoads 4 x34 h32 (fun x35 =>
 kCall R 8 [x35] h32 (fun x36 h37 =>
 kExtr x36 0 (fun x38 =>
 kExtr x36 1 (fun x39 =>
 kNil a0 (fun x40 =>
 kFieldA 0 x40 (fun x41 =>
 kFieldA 2 x41 (fun x42 =>
 kLoad x42 h37 (fun x43 =>
 kI64 .quo x39 x43 (fun x44 =>
 kI64 .mul a1 x44 (fun x45 =>
 kI64 .add x38 x45 (fun x46 =>
 kNil a0 (fun x47 =>
 kFieldA 0 x47 (fun x48 =>
 kFieldA 2 x48 (fun x49 =>
 kLoad x49 h37 (fun x50 =>
 kI64 .sub x50 (Value.int .i64 (.ofNat 1)) (fun x51 =>
 kI64 .eql a1 x51 (fun x52 =>
 jn (fun (x54 : Value) (h55 : Hs) =>
 clrK h (Value.tuple #[x46, x54]) h55) fun k53 =>
 cnd x52
 (kI64 .mul a1 x44 (fun x56 =>
 kI64 .sub x39 x56 (fun x57 =>
 k53 x57 h37)))
 (k53 x44 h37))))))))))))))))))))) fun k29 =>
 cnd x27
 (clrK h (Value.tuple #[(Value.int .i64 (.ofNat 0)), (Value.int .i64 (.ofNat 0))]) h28)
 (k29 (Value.int .i64 (.ofNat 0)) (Value.int .i64 (.ofNat 0)) h28)) (pickB (.c (Value.bool true)) (.c x25) enE h26 x0)))))))))
theorem q26 (R : RnK) (N : Nat) (args : List Value) (h : Hs) : r26 R N args h = callT Try.prog N R 26 args h := by kernel_rfl
noncomputable def r27 (R : RnK) (N : Nat) (args : List Value) (h : Hs) : An := unC args fun a0 sq0 => enK h fun h0 =>
 kNil a0 (fun x0 =>
 kFieldA 0 x0 (fun x1 =>
 kLoads 4 x1 h0 (fun x2 =>
 kCall R 8 [x2] h0 (fun x3 h4 =>
 kExtr x3 0 (fun x5 =>
 kExtr x3 1 (fun x6 =>
 kI64 .add x5 x6 (fun x7 =>
 jn (fun (x9 x10 x11 x12 x13 x14 x15 : Value) (h16 : Hs) =>
 clrK h x15 h16) fun k8 =>
 lpT (T := Value → Value → Value → Value → Value → Value → Value → Hs → An) (fun _ _ _ _ _ _ _ _ => none) N (fun k17 =>
 fun (x19 x20 x21 x22 x23 x24 x25 : Value) (h26 : Hs) =>
 jn (fun (x28 x29 x30 x31 x32 x33 x34 : Value) (h35 : Hs) =>
 k17 x28 x29 x30 x31 x32 x33 x34 h35) fun k27 =>
 kNil a0 (fun x36 =>
 kFieldA 4 x36 (fun x37 =>
 kLoads 1 x37 h26 (fun x38 =>
 kCall R 40 [x38, (Value.bool false), x19, x7] h26 (fun x39 h40 =>
 kExtr x39 0 (fun x41 =>
 kExtr x39 1 (fun x42 =>
 kNot x42 (fun x43 =>
 jn (fun (x45 : Value) (h46 : Hs) =>
 kNil a0 (fun x47 =>
 kFieldA 4 x47 (fun x48 =>
 kLoads 1 x48 h46 (fun x49 =>
 kCall R 40 [x49, (Value.bool true), x41, x7] h46 (fun x50 h51 =>
 kExtr x50 0 (fun x52 =>
 kExtr x50 1 (fun x53 =>
 kNot x53 (fun x54 =>
 jn (fun (x56 : Value) (h57 : Hs) =>
 kI64 .sub x56 x41 (fun x58 =>
 after (fun x59 h60 =>
 after (fun x61 h62 =>
 after (fun x63 h64 =>
 k27 x56 x53 x43 x63 x41 x54 x45 h64) (app0 52 2 16 h62 x22 x61)) (oMkrow 52 2 1 [(Value.int .i64 (.ofNat 0)), (Value.int .i64 (.ofNat 0))] [(0, 2, .c x59)] enE h60)) (oBuild [(Value.int .i64 (.ofNat 0)), (Value.int .i64 (.ofNat 0))] [(0, 1, .c x41), (1, 1, .c x58)] enE h57))) fun k55 =>
 cnd x54
 (k55 x7 h51)
 (k55 x52 h51))))))))) fun k44 =>
 cnd x43
 (clrK h x22 h40)
 (k44 x25 h40))))))))) x5 dunno dunno (Value.slice none 0 0) dunno dunno (Value.slice none 0 0) h4)))))))
theorem q27 (R : RnK) (N : Nat) (args : List Value) (h : Hs) : r27 R N args h = callT Try.prog N R 27 args h := by kernel_rfl
noncomputable def r28 (R : RnK) (N : Nat) (args : List Value) (h : Hs) : An := unC args fun a0 sq0 => unC sq0 fun a1 sq1 => unC sq1 fun a2 sq2 => enK h fun h0 =>
 after (fun x0 h1 =>
 kFieldA 0 x0 (fun x2 =>
 kLoad x2 h1 (fun x3 =>
 kLoad a1 h1 (fun x4 =>
 kI64 .geq x3 x4 (fun x5 =>
 gdT x5 h1 (fun k6 => kFieldA 0 x0 (fun x7 => k6 x7 h1)) (fun x8 h9 =>
 gdT x5 h9 (fun k10 => kLoad x8 h9 (fun x11 => k10 x11 h9)) (fun x12 h13 =>
 gdT x5 h13 (fun k14 => kLoad a1 h13 (fun x15 => k14 x15 h13)) (fun x16 h17 =>
 gdT x5 h17 (fun k18 => kLoad a2 h17 (fun x19 => k18 x19 h17)) (fun x20 h21 =>
 gdT x5 h21 (fun k22 => kI64 .add x16 x20 (fun x23 => k22 x23 h21)) (fun x24 h25 =>
 gdT x5 h25 (fun k26 => kI64 .lss x12 x24 (fun x27 => k26 x27 h25)) (fun x28 h29 =>
 after (fun x30 h31 =>
 clrK h x30 h31) (pickB (.c x28) (.c (Value.bool false)) enE h29 x5)))))))))))) (oBox 52 (.c a0) enE h0)
theorem q28 (R : RnK) (N : Nat) (args : List Value) (h : Hs) : r28 R N args h = callT Try.prog N R 28 args h := by kernel_rfl
noncomputable def r29 (R : RnK) (N : Nat) (args : List Value) (h : Hs) : An := unC args fun a0 sq0 => unC sq0 fun a1 sq1 => enK h fun h0 =>
 kLenV a0 (fun x0 =>
 kCall R 42 [a0, x0, a1] h0 (fun x1 h2 =>
 clrK h (Value.tuple #[]) h2))
theorem q29 (R : RnK) (N : Nat) (args : List Value) (h : Hs) : r29 R N args h = callT Try.prog N R 29 args h := by kernel_rfl
noncomputable def r30 (R : RnK) (N : Nat) (args : List Value) (h : Hs) : An := unC args fun a0 sq0 => unC sq0 fun a1 sq1 => unC sq1 fun a2 sq2 => unC sq2 fun a3 sq3 => enK h fun h0 =>
 after (fun x0 h1 =>
 after (fun x2 h3 =>
 kFieldA 1 x0 (fun x4 =>
 kLoad x4 (Hs.mk h3.hp h3.nx h3.nx) (fun x5 =>
 kLoad a2 (Hs.mk h3.hp h3.nx h3.nx) (fun x6 =>
 kI64 .geq x5 x6 (fun x7 =>
 gdT x7 h3 (fun k8 => kFieldA 1 x2 (fun x9 => k8 x9 h3)) (fun x10 _ =>
 gdT x7 h3 (fun k12 => kLoad x10 (Hs.mk h3.hp h3.nx h3.nx) (fun x13 => k12 x13 h3)) (fun x14 _ =>
 gdT x7 h3 (fun k16 => kLoad a2 (Hs.mk h3.hp h3.nx h3.nx) (fun x17 => k16 x17 h3)) (fun x18 _ =>
 gdT x7 h3 (fun k20 => kI64 .geq x14 x18 (fun x21 => k20 x21 h3)) (fun x22 _ =>
 after (fun v83 u84 => dPut (fun x24 h25 =>
 gdT x24 h25 (fun k26 => kLoad a3 (dHidS .light [true, true, true, true, true, true, true, true, true, true, true] [none, some (h3.nx, h25.nx), none, none, none, none, none, none, none, none, none] h25) (fun x27 => k26 x27 h25)) (fun x28 _ =>
 gdT x24 h25 (fun k30 => kLoads 2 x0 (dHidS .light [false, true, true, true, true, true, true, true, true, true, true, true] [none, none, some (h3.nx, h25.nx), none, none, none, none, none, none, none, none, none] h25) (fun x31 => k30 x31 h25)) (fun x32 _ =>
 gdT x24 h25 (fun k34 => isVal (fun v35 u36 => dPut k34 v35 (dNext h25 u36 .light) (andB (dFit h25 u36 .light) (Nat.ble 0 u36.lo))) (callV (toRn R) [x32] (dHidS .light [true, true, true, true, true, true, true, true, true, true, true, true, true] [none, none, none, some (h3.nx, h25.nx), none, none, none, none, none, none, none, none, none] h25) x28)) (fun x37 h38 =>
 gdT x24 h38 (fun k39 => kLoad a3 (dHidS .light [false, false, false, true, true, true, true, true, true, true, true, true, true, true] [some (h25.nx, h38.nx), none, none, none, some (h3.nx, h25.nx), none, none, none, none, none, none, none, none, none] h38) (fun x40 => k39 x40 h38)) (fun x41 _ =>
 gdT x24 h38 (fun k43 => kLoads 2 x2 (dHidS .light [false, false, false, false, true, true, true, true, true, true, true, true, true, true, true] [none, some (h25.nx, h38.nx), none, none, none, some (h3.nx, h25.nx), none, none, none, none, none, none, none, none, none] h38) (fun x44 => k43 x44 h38)) (fun x45 _ =>
 gdT x24 h38 (fun k47 => isVal (fun v48 u49 => dPut k47 v48 (dNext h38 u49 .bar) (andB (dFit h38 u49 .bar) (Nat.ble 0 u49.lo))) (callV (toRn R) [x45] h38 x41)) (fun x50 h51 =>
 gdT x24 h51 (fun k52 => obK (fun x53 => k52 x53 h51) (e2 true qB x37 x50)) (fun x54 _ =>
 after (fun v81 u82 => dPut (fun x56 h57 =>
 jn (fun (x59 x60 : Value) (h61 : Hs) =>
 kFieldA 1 x2 (fun x62 =>
 kLoad x62 h61 (fun x63 =>
 kLoad a2 h61 (fun x64 =>
 after (fun x65 h66 =>
 kFieldA 1 x0 (fun x67 =>
 kLoad x67 h66 (fun x68 =>
 kLoad a2 h66 (fun x69 =>
 after (fun x70 h71 =>
 kCall R 31 [x65, x70] h71 (fun x72 h73 =>
 clrK h x72 h73)) (oMinmax false [.c x68, .c x69] enE h66))))) (oMinmax false [.c x63, .c x64] enE h61))))) fun k58 =>
 cnd x56
 (kLoad a3 h57 (fun x74 =>
 kLoads 2 x0 h57 (fun x75 =>
 kCallV R x74 [x75] h57 (fun x76 h77 =>
 jn (fun (x79 : Value) (h80 : Hs) =>
 clrK h (Value.int .i64 (.ofNat 1)) h80) fun k78 =>
 cnd x76
 (clrK h (Value.int .i64 (.negSucc 0)) h77)
 (k78 (Value.int .i64 (.ofNat 0)) h77)))))
 (k58 dunno (Value.int .i64 (.ofNat 0)) h57)) v81 (dNext h51 u82 .blind) (andB (dFit h51 u82 .blind) (Nat.ble 0 u82.lo))) (pickB (.c x54) (.c (Value.bool false)) enE (Hs.mk .e h51.nx h51.nx) x24))))))))) v83 (dNext h3 u84 .blind) (andB (dFit h3 u84 .blind) (Nat.ble 0 u84.lo))) (pickB (.c x22) (.c (Value.bool false)) enE (Hs.mk .e h3.nx h3.nx) x7)))))))))) (oBox 52 (.c a1) enE h1)) (oBox 52 (.c a0) enE h0)
theorem q30 (R : RnK) (N : Nat) (args : List Value) (h : Hs) : r30 R N args h = callT Try.prog N R 30 args h := by kernel_rfl
noncomputable def r31 (R : RnK) (N : Nat) (args : List Value) (h : Hs) : An := unC args fun a0 sq0 => unC sq0 fun a1 sq1 => enK h fun h0 =>
 kCall R 43 [a0] h0 (fun x0 h1 =>
 kCall R 43 [a1] h1 (fun x2 h3 =>
 jn (fun (x5 x6 : Value) (h7 : Hs) =>
 jn (fun (x9 : Value) (h10 : Hs) =>
 kI64 .lss a0 a1 (fun x11 =>
 jn (fun (x13 : Value) (h14 : Hs) =>
 kI64 .gtr a0 a1 (fun x15 =>
 jn (fun (x17 : Value) (h18 : Hs) =>
 clrK h (Value.int .i64 (.ofNat 0)) h18) fun k16 =>
 cnd x15
 (clrK h (Value.int .i64 (.ofNat 1)) h14)
 (k16 x13 h14))) fun k12 =>
 cnd x11
 (clrK h (Value.int .i64 (.negSucc 0)) h10)
 (k12 x9 h10))) fun k8 =>
 cnd x2
 (clrK h (Value.int .i64 (.ofNat 1)) h7)
 (k8 x6 h7)) fun k4 =>
 cnd x0
 (jn (fun (x20 : Value) (h21 : Hs) =>
 clrK h (Value.int .i64 (.negSucc 0)) h21) fun k19 =>
 cnd x2
 (clrK h (Value.int .i64 (.ofNat 0)) h3)
 (k19 (Value.int .i64 (.ofNat 0)) h3))
 (k4 dunno (Value.int .i64 (.ofNat 0)) h3)))
theorem q31 (R : RnK) (N : Nat) (args : List Value) (h : Hs) : r31 R N args h = callT Try.prog N R 31 args h := by kernel_rfl
noncomputable def r32 (R : RnK) (N : Nat) (args : List Value) (h : Hs) : An := unC args fun a0 sq0 => unC sq0 fun a1 sq1 => enK h fun h0 =>
 kLenV a0 (fun x0 =>
 jn (fun (x2 x3 x4 x5 x6 x7 : Value) (h8 : Hs) =>
 clrK h x7 h8) fun k1 =>
 lpT (T := Value → Value → Value → Value → Value → Value → Hs → An) (fun _ _ _ _ _ _ _ => none) N (fun k9 =>
 fun (x11 x12 x13 x14 x15 x16 : Value) (h17 : Hs) =>
 kI64 .lss x11 x0 (fun x18 =>
 jn (fun (h20 : Hs) =>
 jn (fun (x22 x23 x24 x25 : Value) (h26 : Hs) =>
 kI64 .add x11 (Value.int .i64 (.ofNat 1)) (fun x27 =>
 k9 x27 x18 x22 x23 x24 x25 h26)) fun k21 =>
 kIdxA 2 a0 x11 (fun x28 =>
 kLoads 2 x28 h20 (fun x29 =>
 after (fun x30 h31 =>
 after (fun x32 h33 =>
 kI64 .eql x13 (Value.int .i64 (.ofNat 0)) (fun x34 =>
 jn (fun (h36 : Hs) =>
 kFieldA 1 x30 (fun x37 =>
 kLoad x37 h36 (fun x38 =>
 after (fun x39 h40 =>
 kFieldA 1 x30 (fun x41 =>
 kStore1 x41 x39 h40 (fun x42 h43 =>
 kFieldA 1 x30 (fun x44 =>
 kLoad x44 h43 (fun x45 =>
 kI64 .sub x13 x45 (fun x46 =>
 kLoads 2 x30 h43 (fun x47 =>
 after (fun x48 h49 =>
 after (fun x50 h51 =>
 k21 x46 x34 x30 x50 h51) (app0 52 2 16 h49 x16 x48)) (oMkrow 52 2 1 [(Value.int .i64 (.ofNat 0)), (Value.int .i64 (.ofNat 0))] [(0, 2, .c x47)] enE h43)))))))) (oMinmax false [.c x38, .c x13] enE h36)))) fun k35 =>
 cnd x34
 (k1 x11 x18 x13 x34 x30 x16 h33)
 (k35 h33))) (store1 2 h31 (cellsL x29) (addrOf x30))) (oAlloc 52 [(Value.int .i64 (.ofNat 0)), (Value.int .i64 (.ofNat 0))] enE h20)))) fun k19 =>
 cnd x18
 (k19 h17)
 (k1 x11 x18 x13 x14 x15 x16 h17))) (Value.int .i64 (.ofNat 0)) dunno a1 dunno dunno (Value.slice none 0 0) h0)
theorem q32 (R : RnK) (N : Nat) (args : List Value) (h : Hs) : r32 R N args h = callT Try.prog N R 32 args h := by kernel_rfl
noncomputable def r33 (R : RnK) (N : Nat) (args : List Value) (h : Hs) : An := unC args fun a0 sq0 => enK h fun h0 =>
 kCall R 44 [a0] h0 (fun x0 h1 =>
 kLenV x0 (fun x2 =>
 jn (fun (x4 x5 x6 x7 : Value) (h8 : Hs) =>
 clrK h x6 h8) fun k3 =>
 lpT (T := Value → Value → Value → Value → Hs → An) (fun _ _ _ _ _ => none) N (fun k9 =>
 fun (x11 x12 x13 x14 : Value) (h15 : Hs) =>
 kI64 .lss x11 x2 (fun x16 =>
 jn (fun (h18 : Hs) =>
 jn (fun (x20 x21 : Value) (h22 : Hs) =>
 kI64 .add x11 (Value.int .i64 (.ofNat 1)) (fun x23 =>
 k9 x23 x16 x20 x21 h22)) fun k19 =>
 kIdxA 2 x0 x11 (fun x24 =>
 kLoads 2 x24 h18 (fun x25 =>
 after (fun x26 h27 =>
 after (fun x28 h29 =>
 kFieldA 1 x26 (fun x30 =>
 kLoad x30 h29 (fun x31 =>
 kI64 .add x13 x31 (fun x32 =>
 k19 x32 x26 h29)))) (store1 2 h27 (cellsL x25) (addrOf x26))) (oAlloc 52 [(Value.int .i64 (.ofNat 0)), (Value.int .i64 (.ofNat 0))] enE h18)))) fun k17 =>
 cnd x16
 (k17 h15)
 (k3 x11 x16 x13 x14 h15))) (Value.int .i64 (.ofNat 0)) dunno (Value.int .i64 (.ofNat 0)) dunno h1))
theorem q33 (R : RnK) (N : Nat) (args : List Value) (h : Hs) : r33 R N args h = callT Try.prog N R 33 args h := by kernel_rfl
noncomputable def r34 (R : RnK) (N : Nat) (args : List Value) (h : Hs) : An := unC args fun a0 sq0 => unC sq0 fun a1 sq1 => unC sq1 fun a2 sq2 => enK h fun h0 =>
 kLenV a2 (fun x0 =>
 jn (fun (x2 x3 x4 x5 x6 x7 x8 : Value) (h9 : Hs) =>
 clrK h (Value.tuple #[]) h9) fun k1 =>
 lpT (T := Value → Value → Value → Value → Value → Value → Value → Hs → An) (fun _ _ _ _ _ _ _ _ => none) N (fun k10 =>
 fun (x12 x13 x14 x15 x16 x17 x18 : Value) (h19 : Hs) =>
 kI64 .lss x12 x0 (fun x20 =>
 jn (fun (h22 : Hs) =>
 jn (fun (x24 x25 x26 x27 x28 : Value) (h29 : Hs) =>
 kI64 .add x12 (Value.int .i64 (.ofNat 1)) (fun x30 =>
 k10 x30 x20 x24 x25 x26 x27 x28 h29)) fun k23 =>
 kIdxA 2 a2 x12 (fun x31 =>
 kLoads 2 x31 h22 (fun x32 =>
 after (fun x33 h34 =>
 after (fun x35 h36 =>
 kFieldA 1 x33 (fun x37 =>
 kLoad x37 h36 (fun x38 =>
 jn (fun (x40 x41 x42 : Value) (h43 : Hs) =>
 k23 x33 x40 x38 x41 x42 h43) fun k39 =>
 lpT (T := Value → Value → Value → Hs → An) (fun _ _ _ _ => none) N (fun k44 =>
 fun (x46 x47 x48 : Value) (h49 : Hs) =>
 kI64 .lss x46 x38 (fun x50 =>
 jn (fun (h52 : Hs) =>
 jn (fun (x54 : Value) (h55 : Hs) =>
 kI64 .add x46 (Value.int .i64 (.ofNat 1)) (fun x56 =>
 k44 x56 x50 x54 h55)) fun k53 =>
 kNil a0 (fun x57 =>
 kFieldA 4 x57 (fun x58 =>
 kLoads 1 x58 (Hs.mk h52.hp h52.nx h52.nx) (fun x59 =>
 kFieldA 0 x33 (fun x60 =>
 kLoad x60 (Hs.mk h52.hp h52.nx h52.nx) (fun x61 =>
 kI64 .add x61 x46 (fun x62 =>
 after (fun v75 u76 => dPut (fun x63 h64 =>
 kCall R 17 [x59, a1, x63] h64 (fun v73 u74 => dPut (fun x65 h66 =>
 kNil a0 (fun x67 =>
 kFieldA 4 x67 (fun x68 =>
 kStore1 x68 x65 h66 (fun v71 u72 => dPut (fun x69 h70 =>
 k53 x46 h70) v71 (dNext h66 u72 .bar) (andB (dFit h66 u72 .bar) (Nat.ble 0 u72.lo)))))) v73 (dNext h64 u74 .bar) (andB (dFit h64 u74 .bar) (Nat.ble 0 u74.lo)))) v75 (dNext h52 u76 .light) (andB (dFit h52 u76 .light) (Nat.ble 0 u76.lo))) (oMkrow 3 1 1 [(Value.int .i64 (.ofNat 0))] [(0, 1, .c x62)] enE (Hs.mk h52.hp h52.nx h52.nx))))))))) fun k51 =>
 cnd x50
 (k51 h49)
 (k39 x46 x50 x48 h49))) (Value.int .i64 (.ofNat 0)) x17 x18 h36))) (store1 2 h34 (cellsL x32) (addrOf x33))) (oAlloc 52 [(Value.int .i64 (.ofNat 0)), (Value.int .i64 (.ofNat 0))] enE h22)))) fun k21 =>
 cnd x20
 (k21 h19)
 (k1 x12 x20 x14 x15 x16 x17 x18 h19))) (Value.int .i64 (.ofNat 0)) dunno dunno dunno dunno dunno dunno h0)
theorem q34 (R : RnK) (N : Nat) (args : List Value) (h : Hs) : r34 R N args h = callT Try.prog N R 34 args h := by kernel_rfl
noncomputable def r35 (R : RnK) (N : Nat) (args : List Value) (h : Hs) : An := unC args fun a0 sq0 => enK h fun h0 =>
 after (fun x0 h1 =>
 jn (fun (x3 x4 x5 : Value) (h6 : Hs) =>
 clrK h x5 h6) fun k2 =>
 lpT (T := Value → Value → Value → Hs → An) (fun _ _ _ _ => none) N (fun k7 =>
 fun (x9 x10 x11 : Value) (h12 : Hs) =>
 kFieldA 3 x0 (fun x13 =>
 kLoad x13 h12 (fun x14 =>
 kLenV x14 (fun x15 =>
 kI64 .lss x9 x15 (fun x16 =>
 jn (fun (h18 : Hs) =>
 jn (fun (x20 : Value) (h21 : Hs) =>
 kI64 .add x9 (Value.int .i64 (.ofNat 1)) (fun x22 =>
 k7 x22 x16 x20 h21)) fun k19 =>
 kFieldA 3 x0 (fun x23 =>
 kLoad x23 h18 (fun x24 =>
 kIdxA 2 x24 x9 (fun x25 =>
 kFieldA 1 x25 (fun x26 =>
 kLoad x26 h18 (fun x27 =>
 kI64 .add x11 x27 (fun x28 =>
 k19 x28 h18))))))) fun k17 =>
 cnd x16
 (k17 h12)
 (k2 x9 x16 x11 h12)))))) (Value.int .i64 (.ofNat 0)) dunno (Value.int .i64 (.ofNat 0)) h1) (oBox 79 (.c a0) enE h0)
theorem q35 (R : RnK) (N : Nat) (args : List Value) (h : Hs) : r35 R N args h = callT Try.prog N R 35 args h := by kernel_rfl
noncomputable def r36 (R : RnK) (N : Nat) (args : List Value) (h : Hs) : An := unC args fun a0 sq0 => enK h fun h0 =>
 jn (fun (x1 x2 x3 x4 : Value) (h5 : Hs) =>
 clrK h x4 h5) fun k0 =>
 lpT (T := Value → Value → Value → Value → Hs → An) (fun _ _ _ _ _ => none) N (fun k6 =>
 fun (x8 x9 x10 x11 : Value) (h12 : Hs) =>
 kLenV a0 (fun x13 =>
 kI64 .lss x8 x13 (fun x14 =>
 jn (fun (h16 : Hs) =>
 jn (fun (x18 x19 : Value) (h20 : Hs) =>
 kI64 .add x8 (Value.int .i64 (.ofNat 1)) (fun x21 =>
 k6 x21 x14 x18 x19 h20)) fun k17 =>
 kIdxA 2 a0 x8 (fun x22 =>
 kFieldA 1 x22 (fun x23 =>
 kLoad x23 h16 (fun x24 =>
 kI64 .geq x24 (Value.int .i64 (.ofNat 1)) (fun x25 =>
 gdT x25 h16 (fun k26 => k26 a0 h16) (fun x27 h28 =>
 gdT x25 h28 (fun k29 => k29 x8 h28) (fun x30 h31 =>
 gdT x25 h31 (fun k32 => kIdxA 2 x27 x30 (fun x33 => k32 x33 h31)) (fun x34 h35 =>
 gdT x25 h35 (fun k36 => kFieldA 0 x34 (fun x37 => k36 x37 h35)) (fun x38 h39 =>
 gdT x25 h39 (fun k40 => kLoad x38 h39 (fun x41 => k40 x41 h39)) (fun x42 h43 =>
 gdT x25 h43 (fun k44 => kI64 .geq x42 (Value.int .i64 (.ofNat 0)) (fun x45 => k44 x45 h43)) (fun x46 h47 =>
 after (fun x48 h49 =>
 gdT x48 h49 (fun k50 => k50 a0 h49) (fun x51 h52 =>
 gdT x48 h52 (fun k53 => k53 x8 h52) (fun x54 h55 =>
 gdT x48 h55 (fun k56 => kIdxA 2 x51 x54 (fun x57 => k56 x57 h55)) (fun x58 h59 =>
 gdT x48 h59 (fun k60 => kFieldA 0 x58 (fun x61 => k60 x61 h59)) (fun x62 h63 =>
 gdT x48 h63 (fun k64 => kLoad x62 h63 (fun x65 => k64 x65 h63)) (fun x66 h67 =>
 gdT x48 h67 (fun k68 => kI64 .leq x66 (Value.int .i64 (.ofNat 1073741824)) (fun x69 => k68 x69 h67)) (fun x70 h71 =>
 after (fun x72 h73 =>
 gdT x72 h73 (fun k74 => k74 a0 h73) (fun x75 h76 =>
 gdT x72 h76 (fun k77 => k77 x8 h76) (fun x78 h79 =>
 gdT x72 h79 (fun k80 => kIdxA 2 x75 x78 (fun x81 => k80 x81 h79)) (fun x82 h83 =>
 gdT x72 h83 (fun k84 => kFieldA 1 x82 (fun x85 => k84 x85 h83)) (fun x86 h87 =>
 gdT x72 h87 (fun k88 => kLoad x86 h87 (fun x89 => k88 x89 h87)) (fun x90 h91 =>
 gdT x72 h91 (fun k92 => kI64 .leq x90 (Value.int .i64 (.ofNat 1073741824)) (fun x93 => k92 x93 h91)) (fun x94 h95 =>
 after (fun x96 h97 =>
 jn (fun (x99 : Value) (h100 : Hs) =>
 k17 x96 x99 h100) fun k98 =>
 cnd x96
 (kIdxA 2 a0 x8 (fun x101 =>
 kLoads 2 x101 h97 (fun x102 =>
 after (fun x103 h104 =>
 after (fun x105 h106 =>
 k98 x105 h106) (app0 80 2 16 h104 x11 x103)) (oMkrow 80 2 1 [(Value.int .i64 (.ofNat 0)), (Value.int .i64 (.ofNat 0))] [(0, 2, .c x102)] enE h97))))
 (k98 x11 h97)) (pickB (.c x94) (.c (Value.bool false)) enE h95 x72)))))))) (pickB (.c x70) (.c (Value.bool false)) enE h71 x48)))))))) (pickB (.c x46) (.c (Value.bool false)) enE h47 x25)))))))))))) fun k15 =>
 cnd x14
 (k15 h12)
 (k0 x8 x14 x10 x11 h12)))) (Value.int .i64 (.ofNat 0)) dunno dunno (Value.slice none 0 0) h0
theorem q36 (R : RnK) (N : Nat) (args : List Value) (h : Hs) : r36 R N args h = callT Try.prog N R 36 args h := by kernel_rfl
noncomputable def r37 (R : RnK) (N : Nat) (args : List Value) (h : Hs) : An := unC args fun a0 sq0 => unC sq0 fun a1 sq1 => enK h fun h0 =>
 after (fun x0 h1 =>
 kI64 .geq a1 (Value.int .i64 (.ofNat 0)) (fun x2 =>
 gdT x2 h1 (fun k3 => k3 a1 h1) (fun x4 h5 =>
 gdT x2 h5 (fun k6 => kI64 .quo x4 (Value.int .i64 (.ofNat 64)) (fun x7 => k6 x7 h5)) (fun x8 h9 =>
 gdT x2 h9 (fun k10 => kFieldA 0 x0 (fun x11 => k10 x11 h9)) (fun x12 h13 =>
 gdT x2 h13 (fun k14 => kLoad x12 h13 (fun x15 => k14 x15 h13)) (fun x16 h17 =>
 gdT x2 h17 (fun k18 => kLenV x16 (fun x19 => k18 x19 h17)) (fun x20 h21 =>
 gdT x2 h21 (fun k22 => kI64 .lss x8 x20 (fun x23 => k22 x23 h21)) (fun x24 h25 =>
 after (fun x26 h27 =>
 clrK h x26 h27) (pickB (.c x24) (.c (Value.bool false)) enE h25 x2))))))))) (oBox 33 (.c a0) enE h0)
theorem q37 (R : RnK) (N : Nat) (args : List Value) (h : Hs) : r37 R N args h = callT Try.prog N R 37 args h := by kernel_rfl
noncomputable def r38 (R : RnK) (N : Nat) (args : List Value) (h : Hs) : An := unC args fun a0 sq0 => enK h fun h0 =>
 obK (fun x0 =>
 jn (fun (x2 : Value) (h3 : Hs) =>
 after (fun x4 h5 =>
 after (fun x6 h7 =>
 clrK h x6 h7) (app0 58 1 8 h5 x4 a0)) (oMkrow 58 1 0 [(Value.int .u64 (.ofNat 0))] [] enE h3)) fun k1 =>
 cnd x0
 (clrK h (Value.slice none 0 0) h0)
 (k1 (Value.slice none 0 0) h0)) (e2 false qS a0 (Value.slice none 0 0))
theorem q38 (R : RnK) (N : Nat) (args : List Value) (h : Hs) : r38 R N args h = callT Try.prog N R 38 args h := by kernel_rfl
noncomputable def r39 (R : RnK) (N : Nat) (args : List Value) (h : Hs) : An := unC args fun a0 sq0 => enK h fun h0 =>
 kCall R 44 [a0] h0 (fun x0 h1 =>
 kCall R 45 [x0, (Value.func (.func 46) #[] #[])] h1 (fun x2 h3 =>
 jn (fun (x5 x6 x7 x8 : Value) (h9 : Hs) =>
 clrK h (Value.bool true) h9) fun k4 =>
 lpT (T := Value → Value → Value → Value → Hs → An) (fun _ _ _ _ _ => none) N (fun k10 =>
 fun (x12 x13 x14 x15 : Value) (h16 : Hs) =>
 kLenV x0 (fun x17 =>
 kI64 .lss x12 x17 (fun x18 =>
 jn (fun (h20 : Hs) =>
 jn (fun (x22 x23 : Value) (h24 : Hs) =>
 kI64 .add x12 (Value.int .i64 (.ofNat 1)) (fun x25 =>
 k10 x25 x18 x22 x23 h24)) fun k21 =>
 kI64 .sub x12 (Value.int .i64 (.ofNat 1)) (fun x26 =>
 kIdxA 2 x0 x26 (fun x27 =>
 kFieldA 0 x27 (fun x28 =>
 kLoad x28 (Hs.mk h20.hp h20.nx h20.nx) (fun x29 =>
 kI64 .sub x12 (Value.int .i64 (.ofNat 1)) (fun x30 =>
 kIdxA 2 x0 x30 (fun x31 =>
 kFieldA 1 x31 (fun x32 =>
 kLoad x32 (Hs.mk h20.hp h20.nx h20.nx) (fun x33 =>
 kI64 .add x29 x33 (fun x34 =>
 kIdxA 2 x0 x12 (fun x35 =>
 kFieldA 0 x35 (fun x36 =>
 kLoad x36 (Hs.mk h20.hp h20.nx h20.nx) (fun x37 =>
 kI64 .gtr x34 x37 (fun x38 =>
 jn (fun (x40 : Value) (h41 : Hs) =>
 k21 x38 x40 h41) fun k39 =>
 cnd x38
 (clrK h (Value.bool false) h20)
 (k39 x15 h20))))))))))))))) fun k19 =>
 cnd x18
 (k19 h16)
 (k4 x12 x18 x14 x15 h16)))) (Value.int .i64 (.ofNat 1)) dunno dunno (Value.bool false) h3))
theorem q39 (R : RnK) (N : Nat) (args : List Value) (h : Hs) : r39 R N args h = callT Try.prog N R 39 args h := by kernel_rfl
noncomputable def r40 (R : RnK) (N : Nat) (args : List Value) (h : Hs) : An := unC args fun a0 sq0 => unC sq0 fun a1 sq1 => unC sq1 fun a2 sq2 => unC sq2 fun a3 sq3 => enK h fun h0 =>
 after (fun x0 h1 =>
 after (fun x2 h3 =>
 jn (fun (x5 x6 x7 x8 x9 : Value) (h10 : Hs) =>
 clrK h (Value.tuple #[(Value.int .i64 (.ofNat 0)), (Value.bool false)]) h10) fun k4 =>
 lpT (T := Value → Value → Value → Value → Value → Hs → An) (fun _ _ _ _ _ _ => none) N (fun k11 =>
 fun (x13 x14 x15 x16 x17 : Value) (h18 : Hs) =>
 kI64 .lss x13 a3 (fun x19 =>
 gdT x19 h18 (fun k20 => kLoads 1 x0 h18 (fun x21 => k20 x21 h18)) (fun x22 h23 =>
 gdT x19 h23 (fun k24 => k24 x13 h23) (fun x25 h26 =>
 gdT x19 h26 (fun k27 => kCall R 37 [x22, x25] h26 (k27)) (fun x28 h29 =>
 after (fun x30 h31 =>
 jn (fun (h33 : Hs) =>
 jn (fun (x35 x36 x37 : Value) (h38 : Hs) =>
 kI64 .add x13 (Value.int .i64 (.ofNat 1)) (fun x39 =>
 k11 x39 x30 x35 x36 x37 h38)) fun k34 =>
 kLoads 1 x0 h33 (fun x40 =>
 kCall R 16 [x40, x13] h33 (fun x41 h42 =>
 obK (fun x43 =>
 jn (fun (x45 x46 : Value) (h47 : Hs) =>
 k34 x43 x45 x46 h47) fun k44 =>
 cnd x43
 (clrK h (Value.tuple #[x13, (Value.bool true)]) h42)
 (k44 x16 x17 h42)) (e2 false qB x41 a1)))) fun k32 =>
 cnd x30
 (k32 h31)
 (k4 x13 x30 x15 x16 x17 h31)) (pickB (.c x28) (.c (Value.bool false)) enE h29 x19)))))) x2 dunno dunno (Value.int .i64 (.ofNat 0)) (Value.bool false) h3) (oMinmax true [.c a2, .c (Value.int .i64 (.ofNat 0))] enE h1)) (oBox 33 (.c a0) enE h0)
theorem q40 (R : RnK) (N : Nat) (args : List Value) (h : Hs) : r40 R N args h = callT Try.prog N R 40 args h := by kernel_rfl
noncomputable def r41 (R : RnK) (N : Nat) (args : List Value) (h : Hs) : An := unC args fun a0 sq0 => enK h fun h0 =>
 after (fun x0 h1 =>
 kFieldA 2 x0 (fun x2 =>
 kLoad x2 (Hs.mk h1.hp h1.nx h1.nx) (fun x3 =>
 kFieldA 3 x0 (fun x4 =>
 kLoad x4 (Hs.mk h1.hp h1.nx h1.nx) (fun x5 =>
 kI64 .mul x3 x5 (fun x6 =>
 kI64 .add (Value.int .i64 (.ofNat 1)) x6 (fun x7 =>
 kFieldA 0 x0 (fun x8 =>
 kLoad x8 (Hs.mk h1.hp h1.nx h1.nx) (fun x9 =>
 kI64 .add x9 (Value.int .i64 (.ofNat 512)) (fun x10 =>
 kI64 .sub x10 (Value.int .i64 (.ofNat 1)) (fun x11 =>
 kI64 .quo x11 (Value.int .i64 (.ofNat 512)) (fun x12 =>
 clrK h (Value.tuple #[x7, x12]) h1)))))))))))) (oBox 23 (.c a0) enE h0)
theorem q41 (R : RnK) (N : Nat) (args : List Value) (h : Hs) : r41 R N args h = callT Try.prog N R 41 args h := by kernel_rfl
noncomputable def r42 (R : RnK) (N : Nat) (args : List Value) (h : Hs) : An := unC args fun a0 sq0 => unC sq0 fun a1 sq1 => unC sq1 fun a2 sq2 => enK h fun h0 =>
 jn (fun (x1 x2 x3 : Value) (h4 : Hs) =>
 kCall R 47 [a0, x3, a1, a2] h4 (fun x5 h6 =>
 jn (fun (x8 x9 x10 x11 x12 x13 x14 : Value) (h15 : Hs) =>
 clrK h (Value.tuple #[]) h15) fun k7 =>
 lpT (T := Value → Value → Value → Value → Value → Value → Value → Hs → An) (fun _ _ _ _ _ _ _ _ => none) N (fun k16 =>
 fun (x18 x19 x20 x21 x22 x23 x24 : Value) (h25 : Hs) =>
 kI64 .lss x18 a1 (fun x26 =>
 jn (fun (h28 : Hs) =>
 jn (fun (x30 x31 x32 x33 x34 x35 : Value) (h36 : Hs) =>
 k16 x30 x31 x32 x26 x33 x34 x35 h36) fun k29 =>
 kI64 .mul (Value.int .i64 (.ofNat 2)) x18 (fun x37 =>
 jn (fun (x39 x40 x41 : Value) (h42 : Hs) =>
 kI64 .add x40 x18 (fun x43 =>
 kI64 .lss x43 a1 (fun x44 =>
 jn (fun (h46 : Hs) =>
 kI64 .mul x18 (Value.int .i64 (.ofNat 2)) (fun x47 =>
 k29 x47 x39 x40 x41 x43 x44 h46)) fun k45 =>
 cnd x44
 (kCall R 48 [a0, x40, x43, a1, a2] h42 (fun x48 h49 =>
 k45 h49))
 (k45 h42)))) fun k38 =>
 lpT (T := Value → Value → Value → Hs → An) (fun _ _ _ _ => none) N (fun k50 =>
 fun (x52 x53 x54 : Value) (h55 : Hs) =>
 kI64 .leq x52 a1 (fun x56 =>
 jn (fun (h58 : Hs) =>
 jn (fun (x60 x61 : Value) (h62 : Hs) =>
 k50 x60 x61 x56 h62) fun k59 =>
 kI64 .add x53 x18 (fun x63 =>
 kCall R 48 [a0, x53, x63, x52, a2] h58 (fun x64 h65 =>
 kI64 .mul (Value.int .i64 (.ofNat 2)) x18 (fun x66 =>
 kI64 .add x52 x66 (fun x67 =>
 k59 x67 x52 h65))))) fun k57 =>
 cnd x56
 (k57 h55)
 (k38 x52 x53 x56 h55))) x37 (Value.int .i64 (.ofNat 0)) x22 h28)) fun k27 =>
 cnd x26
 (k27 h25)
 (k7 x18 x19 x20 x26 x22 x23 x24 h25))) (Value.int .i64 (.ofNat 20)) x1 x3 dunno dunno dunno dunno h6)) fun k0 =>
 lpT (T := Value → Value → Value → Hs → An) (fun _ _ _ _ => none) N (fun k68 =>
 fun (x70 x71 x72 : Value) (h73 : Hs) =>
 kI64 .leq x70 a1 (fun x74 =>
 jn (fun (h76 : Hs) =>
 jn (fun (x78 x79 : Value) (h80 : Hs) =>
 k68 x78 x74 x79 h80) fun k77 =>
 kCall R 47 [a0, x72, x70, a2] h76 (fun x81 h82 =>
 kI64 .add x70 (Value.int .i64 (.ofNat 20)) (fun x83 =>
 k77 x83 x70 h82))) fun k75 =>
 cnd x74
 (k75 h73)
 (k0 x70 x74 x72 h73))) (Value.int .i64 (.ofNat 20)) dunno (Value.int .i64 (.ofNat 0)) h0
theorem q42 (R : RnK) (N : Nat) (args : List Value) (h : Hs) : r42 R N args h = callT Try.prog N R 42 args h := by kernel_rfl
noncomputable def r43 (R : RnK) (N : Nat) (args : List Value) (h : Hs) : An := unC args fun a0 sq0 => enK h fun h0 =>
 kI64 .neq a0 a0 (fun x0 =>
 clrK h x0 h0)
theorem q43 (R : RnK) (N : Nat) (args : List Value) (h : Hs) : r43 R N args h = callT Try.prog N R 43 args h := by kernel_rfl
noncomputable def r44 (R : RnK) (N : Nat) (args : List Value) (h : Hs) : An := unC args fun a0 sq0 => enK h fun h0 =>
 kLenV a0 (fun x0 =>
 jn (fun (x2 x3 x4 x5 x6 : Value) (h7 : Hs) =>
 clrK h x6 h7) fun k1 =>
 lpT (T := Value → Value → Value → Value → Value → Hs → An) (fun _ _ _ _ _ _ => none) N (fun k8 =>
 fun (x10 x11 x12 x13 x14 : Value) (h15 : Hs) =>
 kI64 .lss x10 x0 (fun x16 =>
 jn (fun (h18 : Hs) =>
 jn (fun (x20 x21 x22 : Value) (h23 : Hs) =>
 kI64 .add x10 (Value.int .i64 (.ofNat 1)) (fun x24 =>
 k8 x24 x16 x20 x21 x22 h23)) fun k19 =>
 kIdxA 2 a0 x10 (fun x25 =>
 kLoads 2 x25 h18 (fun x26 =>
 after (fun x27 h28 =>
 after (fun x29 h30 =>
 kFieldA 1 x27 (fun x31 =>
 kLoad x31 h30 (fun x32 =>
 kI64 .geq x32 (Value.int .i64 (.ofNat 1)) (fun x33 =>
 gdT x33 h30 (fun k34 => kFieldA 1 x27 (fun x35 => k34 x35 h30)) (fun x36 h37 =>
 gdT x33 h37 (fun k38 => kLoad x36 h37 (fun x39 => k38 x39 h37)) (fun x40 h41 =>
 gdT x33 h41 (fun k42 => kI64 .leq x40 (Value.int .i64 (.ofNat 1073741824)) (fun x43 => k42 x43 h41)) (fun x44 h45 =>
 after (fun x46 h47 =>
 gdT x46 h47 (fun k48 => kFieldA 0 x27 (fun x49 => k48 x49 h47)) (fun x50 h51 =>
 gdT x46 h51 (fun k52 => kLoad x50 h51 (fun x53 => k52 x53 h51)) (fun x54 h55 =>
 gdT x46 h55 (fun k56 => kI64 .geq x54 (Value.int .i64 (.ofNat 0)) (fun x57 => k56 x57 h55)) (fun x58 h59 =>
 after (fun x60 h61 =>
 gdT x60 h61 (fun k62 => kFieldA 0 x27 (fun x63 => k62 x63 h61)) (fun x64 h65 =>
 gdT x60 h65 (fun k66 => kLoad x64 h65 (fun x67 => k66 x67 h65)) (fun x68 h69 =>
 gdT x60 h69 (fun k70 => kI64 .leq x68 (Value.int .i64 (.ofNat 1073741824)) (fun x71 => k70 x71 h69)) (fun x72 h73 =>
 after (fun x74 h75 =>
 jn (fun (x77 : Value) (h78 : Hs) =>
 k19 x27 x74 x77 h78) fun k76 =>
 cnd x74
 (kLoads 2 x27 h75 (fun x79 =>
 after (fun x80 h81 =>
 after (fun x82 h83 =>
 k76 x82 h83) (app0 52 2 16 h81 x14 x80)) (oMkrow 52 2 1 [(Value.int .i64 (.ofNat 0)), (Value.int .i64 (.ofNat 0))] [(0, 2, .c x79)] enE h75)))
 (k76 x14 h75)) (pickB (.c x72) (.c (Value.bool false)) enE h73 x60))))) (pickB (.c x58) (.c (Value.bool false)) enE h59 x46))))) (pickB (.c x44) (.c (Value.bool false)) enE h45 x33)))))))) (store1 2 h28 (cellsL x26) (addrOf x27))) (oAlloc 52 [(Value.int .i64 (.ofNat 0)), (Value.int .i64 (.ofNat 0))] enE h18)))) fun k17 =>
 cnd x16
 (k17 h15)
 (k1 x10 x16 x12 x13 x14 h15))) (Value.int .i64 (.ofNat 0)) dunno dunno dunno (Value.slice none 0 0) h0)
theorem q44 (R : RnK) (N : Nat) (args : List Value) (h : Hs) : r44 R N args h = callT Try.prog N R 44 args h := by kernel_rfl
noncomputable def r45 (R : RnK) (N : Nat) (args : List Value) (h : Hs) : An := unC args fun a0 sq0 => unC sq0 fun a1 sq1 => enK h fun h0 =>
 kLenV a0 (fun x0 =>
 kToU x0 (fun x1 =>
 kCall R 50 [x1] h0 (fun x2 h3 =>
 kCall R 49 [a0, (Value.int .i64 (.ofNat 0)), x0, x2, a1] h3 (fun x4 h5 =>
 clrK h (Value.tuple #[]) h5))))
theorem q45 (R : RnK) (N : Nat) (args : List Value) (h : Hs) : r45 R N args h = callT Try.prog N R 45 args h := by kernel_rfl
noncomputable def r46 (R : RnK) (N : Nat) (args : List Value) (h : Hs) : An := unC args fun a0 sq0 => unC sq0 fun a1 sq1 => enK h fun h0 =>
 after (fun x0 h1 =>
 after (fun x2 h3 =>
 kFieldA 0 x0 (fun x4 =>
 kLoad x4 h3 (fun x5 =>
 kFieldA 0 x2 (fun x6 =>
 kLoad x6 h3 (fun x7 =>
 kI64 .sub x5 x7 (fun x8 =>
 clrK h x8 h3)))))) (oBox 52 (.c a1) enE h1)) (oBox 52 (.c a0) enE h0)
theorem q46 (R : RnK) (N : Nat) (args : List Value) (h : Hs) : r46 R N args h = callT Try.prog N R 46 args h := by kernel_rfl
noncomputable def r47 (R : RnK) (N : Nat) (args : List Value) (h : Hs) : An := unC args fun a0 sq0 => unC sq0 fun a1 sq1 => unC sq1 fun a2 sq2 => unC sq2 fun a3 sq3 => enK h fun h0 =>
 kI64 .add a1 (Value.int .i64 (.ofNat 1)) (fun x0 =>
 jn (fun (x2 x3 x4 x5 : Value) (h6 : Hs) =>
 clrK h (Value.tuple #[]) h6) fun k1 =>
 lpT (T := Value → Value → Value → Value → Hs → An) (fun _ _ _ _ _ => none) N (fun k7 =>
 fun (x9 x10 x11 x12 : Value) (h13 : Hs) =>
 kI64 .lss x9 a2 (fun x14 =>
 jn (fun (h16 : Hs) =>
 jn (fun (x18 x19 : Value) (h20 : Hs) =>
 kI64 .add x9 (Value.int .i64 (.ofNat 1)) (fun x21 =>
 k7 x21 x14 x18 x19 h20)) fun k17 =>
 jn (fun (x23 x24 : Value) (h25 : Hs) =>
 k17 x23 x24 h25) fun k22 =>
 lpT (T := Value → Value → Hs → An) (fun _ _ _ => none) N (fun k26 =>
 fun (x28 x29 : Value) (h30 : Hs) =>
 kI64 .gtr x28 a1 (fun x31 =>
 gdT x31 h30 (fun k32 => k32 a3 h30) (fun x33 _ =>
 gdT x31 h30 (fun k35 => k35 a0 h30) (fun x36 _ =>
 gdT x31 h30 (fun k38 => k38 x28 h30) (fun x39 _ =>
 gdT x31 h30 (fun k41 => kIdxA 2 x36 x39 (fun x42 => k41 x42 h30)) (fun x43 _ =>
 gdT x31 h30 (fun k45 => kLoads 2 x43 (Hs.mk h30.hp h30.nx h30.nx) (fun x46 => k45 x46 h30)) (fun x47 _ =>
 gdT x31 h30 (fun k49 => k49 a0 h30) (fun x50 _ =>
 gdT x31 h30 (fun k52 => k52 x28 h30) (fun x53 _ =>
 gdT x31 h30 (fun k55 => kI64 .sub x53 (Value.int .i64 (.ofNat 1)) (fun x56 => k55 x56 h30)) (fun x57 _ =>
 gdT x31 h30 (fun k59 => kIdxA 2 x50 x57 (fun x60 => k59 x60 h30)) (fun x61 _ =>
 gdT x31 h30 (fun k63 => kLoads 2 x61 (Hs.mk h30.hp h30.nx h30.nx) (fun x64 => k63 x64 h30)) (fun x65 _ =>
 gdT x31 h30 (fun k67 => isVal (fun v68 u69 => dPut k67 v68 (dNext h30 u69 .bar) (andB (dFit h30 u69 .bar) (Nat.ble 0 u69.lo))) (callV (toRn R) [x47, x65] h30 x33)) (fun x70 h71 =>
 gdT x31 h71 (fun k72 => kI64 .lss x70 (Value.int .i64 (.ofNat 0)) (fun x73 => k72 x73 h71)) (fun x74 _ =>
 after (fun v99 u100 => dPut (fun x76 h77 =>
 jn (fun (h79 : Hs) =>
 jn (fun (h81 : Hs) =>
 kI64 .sub x28 (Value.int .i64 (.ofNat 1)) (fun x82 =>
 k26 x82 x76 h81)) fun k80 =>
 kI64 .sub x28 (Value.int .i64 (.ofNat 1)) (fun x83 =>
 kI64 .sub x28 (Value.int .i64 (.ofNat 1)) (fun x84 =>
 kIdxA 2 a0 x84 (fun x85 =>
 kLoads 2 x85 (Hs.mk h79.hp h79.nx h79.nx) (fun x86 =>
 kIdxA 2 a0 x28 (fun x87 =>
 kLoads 2 x87 (Hs.mk h79.hp h79.nx h79.nx) (fun x88 =>
 kIdxA 2 a0 x28 (fun x89 =>
 after (fun v97 u98 => dPut (fun x90 h91 =>
 kIdxA 2 a0 x83 (fun x92 =>
 after (fun v95 u96 => dPut (fun x93 h94 =>
 k80 h94) v95 (dNext h91 u96 .bar) (andB (dFit h91 u96 .bar) (Nat.ble 0 u96.lo))) (store1 2 h91 (cellsL x88) (addrOf x92)))) v97 (dNext h79 u98 .bar) (andB (dFit h79 u98 .bar) (Nat.ble 0 u98.lo))) (store1 2 h79 (cellsL x86) (addrOf x89)))))))))) fun k78 =>
 cnd x76
 (k78 h77)
 (k22 x28 x76 h77)) v99 (dNext h71 u100 .blind) (andB (dFit h71 u100 .blind) (Nat.ble 0 u100.lo))) (pickB (.c x74) (.c (Value.bool false)) enE (Hs.mk .e h71.nx h71.nx) x31))))))))))))))) x9 x12 h16) fun k15 =>
 cnd x14
 (k15 h13)
 (k1 x9 x14 x11 x12 h13))) x0 dunno dunno dunno h0)
theorem q47 (R : RnK) (N : Nat) (args : List Value) (h : Hs) : r47 R N args h = callT Try.prog N R 47 args h := by kernel_rfl
noncomputable def r49 (R : RnK) (N : Nat) (args : List Value) (h : Hs) : An := unC args fun a0 sq0 => unC sq0 fun a1 sq1 => unC sq1 fun a2 sq2 => unC sq2 fun a3 sq3 => unC sq3 fun a4 sq4 => enK h fun h0 =>
 jn (fun (x1 x2 x3 x4 x5 x6 x7 x8 x9 x10 x11 x12 x13 x14 x15 x16 x17 x18 x19 x20 x21 x22 : Value) (h23 : Hs) =>
 clrK h (Value.tuple #[]) h23) fun k0 =>
 lpT (T := Value → Value → Value → Value → Value → Value → Value → Value → Value → Value → Value → Value → Value → Value → Value → Value → Value → Value → Value → Value → Value → Value → Hs → An) (fun _ _ _ _ _ _ _ _ _ _ _ _ _ _ _ _ _ _ _ _ _ _ _ => none) N (fun k24 =>
 fun (x26 x27 x28 x29 x30 x31 x32 x33 x34 x35 x36 x37 x38 x39 x40 x41 x42 x43 x44 x45 x46 x47 : Value) (h48 : Hs) =>
 jn (fun (x50 x51 x52 x53 x54 x55 x56 x57 x58 x59 x60 x61 x62 x63 x64 x65 x66 x67 x68 x69 x70 x71 : Value) (h72 : Hs) =>
 k24 x50 x51 x52 x53 x54 x55 x56 x57 x58 x59 x60 x61 x62 x63 x64 x65 x66 x67 x68 x69 x70 x71 h72) fun k49 =>
 kI64 .sub x26 x27 (fun x73 =>
 kI64 .leq x73 (Value.int .i64 (.ofNat 12)) (fun x74 =>
 jn (fun (h76 : Hs) =>
 kI64 .eql x30 (Value.int .i64 (.ofNat 0)) (fun x77 =>
 jn (fun (h79 : Hs) =>
 kNot x32 (fun x80 =>
 jn (fun (x82 : Value) (h83 : Hs) =>
 kCall R 54 [a0, x27, x26, a4] h83 (fun x84 h85 =>
 kExtr x84 0 (fun x86 =>
 kExtr x84 1 (fun x87 =>
 kI64 .eql x87 (Value.int .i64 (.ofNat 2)) (fun x88 =>
 jn (fun (x90 x91 : Value) (h92 : Hs) =>
 gdT x32 h92 (fun k93 => k93 x37 h92) (fun x94 h95 =>
 after (fun x96 h97 =>
 gdT x96 h97 (fun k98 => k98 x90 h97) (fun x99 h100 =>
 gdT x96 h100 (fun k101 => kI64 .eql x99 (Value.int .i64 (.ofNat 1)) (fun x102 => k101 x102 h100)) (fun x103 h104 =>
 after (fun x105 h106 =>
 jn (fun (x108 : Value) (h109 : Hs) =>
 kI64 .gtr x27 (Value.int .i64 (.ofNat 0)) (fun x110 =>
 gdT x110 h109 (fun k111 => k111 a4 h109) (fun x112 _ =>
 gdT x110 h109 (fun k114 => k114 a0 h109) (fun x115 _ =>
 gdT x110 h109 (fun k117 => k117 x27 h109) (fun x118 _ =>
 gdT x110 h109 (fun k120 => kI64 .sub x118 (Value.int .i64 (.ofNat 1)) (fun x121 => k120 x121 h109)) (fun x122 _ =>
 gdT x110 h109 (fun k124 => kIdxA 2 x115 x122 (fun x125 => k124 x125 h109)) (fun x126 _ =>
 gdT x110 h109 (fun k128 => kLoads 2 x126 (Hs.mk h109.hp h109.nx h109.nx) (fun x129 => k128 x129 h109)) (fun x130 _ =>
 gdT x110 h109 (fun k132 => k132 a0 h109) (fun x133 _ =>
 gdT x110 h109 (fun k135 => k135 x91 h109) (fun x136 _ =>
 gdT x110 h109 (fun k138 => kIdxA 2 x133 x136 (fun x139 => k138 x139 h109)) (fun x140 _ =>
 gdT x110 h109 (fun k142 => kLoads 2 x140 (Hs.mk h109.hp h109.nx h109.nx) (fun x143 => k142 x143 h109)) (fun x144 _ =>
 gdT x110 h109 (fun k146 => isVal (fun v147 u148 => dPut k146 v147 (dNext h109 u148 .bar) (andB (dFit h109 u148 .bar) (Nat.ble 0 u148.lo))) (callV (toRn R) [x130, x144] h109 x112)) (fun x149 h150 =>
 gdT x110 h150 (fun k151 => kI64 .lss x149 (Value.int .i64 (.ofNat 0)) (fun x152 => k151 x152 h150)) (fun x153 _ =>
 gdT x110 h150 (fun k155 => kNot x153 (fun x156 => k155 x156 h150)) (fun x157 _ =>
 after (fun v188 u189 => dPut (fun x159 h160 =>
 jn (fun (x162 x163 : Value) (h164 : Hs) =>
 kCall R 58 [a0, x162, x26, x91, a4] h164 (fun x165 h166 =>
 kExtr x165 0 (fun x167 =>
 kExtr x165 1 (fun x168 =>
 kI64 .sub x167 x162 (fun x169 =>
 kI64 .sub x26 x167 (fun x170 =>
 kI64 .quo x73 (Value.int .i64 (.ofNat 8)) (fun x171 =>
 kI64 .lss x169 x170 (fun x172 =>
 jn (fun (x174 x175 x176 : Value) (h177 : Hs) =>
 k49 x174 x175 x73 x74 x82 x77 x176 x80 x90 x88 x91 x168 x105 x108 x159 x163 x168 x167 x169 x170 x172 x171 h177) fun k173 =>
 cnd x172
 (kI64 .geq x169 x171 (fun x178 =>
 kCall R 49 [a0, x162, x167, x82, a4] h166 (fun x179 h180 =>
 kI64 .add x167 (Value.int .i64 (.ofNat 1)) (fun x181 =>
 k173 x26 x181 x178 h180))))
 (kI64 .geq x170 x171 (fun x182 =>
 kI64 .add x167 (Value.int .i64 (.ofNat 1)) (fun x183 =>
 kCall R 49 [a0, x183, x26, x82, a4] h166 (fun x184 h185 =>
 k173 x167 x162 x182 h185)))))))))))) fun k161 =>
 cnd x159
 (kCall R 57 [a0, x27, x26, x91, a4] h160 (fun x186 h187 =>
 k49 x26 x186 x73 x74 x82 x77 x32 x80 x90 x88 x91 x37 x105 x108 x159 x186 x42 x43 x44 x45 x46 x47 h187))
 (k161 x27 x41 h160)) v188 (dNext h150 u189 .blind) (andB (dFit h150 u189 .blind) (Nat.ble 0 u189.lo))) (pickB (.c x157) (.c (Value.bool false)) enE (Hs.mk .e h150.nx h150.nx) x110)))))))))))))))) fun k107 =>
 cnd x105
 (kCall R 56 [a0, x27, x26, a4] h106 (fun x190 h191 =>
 jn (fun (h193 : Hs) =>
 k107 x190 h193) fun k192 =>
 cnd x190
 (clrK h (Value.tuple #[]) h191)
 (k192 h191)))
 (k107 x39 h106)) (pickB (.c x103) (.c (Value.bool false)) enE h104 x96)))) (pickB (.c x94) (.c (Value.bool false)) enE h95 x32))) fun k89 =>
 cnd x88
 (kCall R 55 [a0, x27, x26, a4] h85 (fun x194 h195 =>
 kI64 .sub x26 (Value.int .i64 (.ofNat 1)) (fun x196 =>
 kI64 .sub x86 x27 (fun x197 =>
 kI64 .sub x196 x197 (fun x198 =>
 k89 (Value.int .i64 (.ofNat 1)) x198 h195)))))
 (k89 x87 x86 h85)))))) fun k81 =>
 cnd x80
 (kCall R 53 [a0, x27, x26, a4] h79 (fun x199 h200 =>
 kI64 .sub x30 (Value.int .i64 (.ofNat 1)) (fun x201 =>
 k81 x201 h200)))
 (k81 x30 h79))) fun k78 =>
 cnd x77
 (kCall R 52 [a0, x27, x26, a4] h76 (fun x202 h203 =>
 clrK h (Value.tuple #[]) h203))
 (k78 h76))) fun k75 =>
 cnd x74
 (kCall R 47 [a0, x27, x26, a4] h48 (fun x204 h205 =>
 clrK h (Value.tuple #[]) h205))
 (k75 h48)))) a2 a1 dunno dunno a3 dunno (Value.bool true) dunno dunno dunno dunno (Value.bool true) dunno dunno dunno dunno dunno dunno dunno dunno dunno dunno h0
theorem q49 (R : RnK) (N : Nat) (args : List Value) (h : Hs) : r49 R N args h = callT Try.prog N R 49 args h := by kernel_rfl
noncomputable def r50 (R : RnK) (N : Nat) (args : List Value) (h : Hs) : An := unC args fun a0 sq0 => enK h fun h0 =>
 jn (fun (x1 : Value) (h2 : Hs) =>
 kCall R 60 [a0] h2 (fun x3 h4 =>
 clrK h x3 h4)) fun k0 =>
 cnd (Value.bool false)
 (obK (fun x5 =>
 kCall R 59 [x5] h0 (fun x6 h7 =>
 clrK h x6 h7)) (convI1 .u32 a0))
 (k0 (Value.int .i64 (.ofNat 0)) h0)
theorem q50 (R : RnK) (N : Nat) (args : List Value) (h : Hs) : r50 R N args h = callT Try.prog N R 50 args h := by kernel_rfl
noncomputable def r60 (R : RnK) (N : Nat) (args : List Value) (h : Hs) : An := unC args fun a0 sq0 => enK h fun h0 =>
 kU64 .geq a0 (Value.int .u64 (.ofNat 4294967296)) (fun x0 =>
 jn (fun (x2 x3 : Value) (h4 : Hs) =>
 kU64 .geq x2 (Value.int .u64 (.ofNat 65536)) (fun x5 =>
 jn (fun (x7 x8 : Value) (h9 : Hs) =>
 kU64 .geq x7 (Value.int .u64 (.ofNat 256)) (fun x10 =>
 jn (fun (x12 x13 : Value) (h14 : Hs) =>
 kTo8 x12 (fun x15 =>
 after (fun x16 h17 =>
 kTo64 x16 (fun x18 =>
 kI64 .add x13 x18 (fun x19 =>
 clrK h x19 h17))) (oIdxS (.c (Value.string ⟨#[0, 1, 2, 2, 3, 3, 3, 3, 4, 4, 4, 4, 4, 4, 4, 4, 5, 5, 5, 5, 5, 5, 5, 5, 5, 5, 5, 5, 5, 5, 5, 5, 6, 6, 6, 6, 6, 6, 6, 6, 6, 6, 6, 6, 6, 6, 6, 6, 6, 6, 6, 6, 6, 6, 6, 6, 6, 6, 6, 6, 6, 6, 6, 6, 7, 7, 7, 7, 7, 7, 7, 7, 7, 7, 7, 7, 7, 7, 7, 7, 7, 7, 7, 7, 7, 7, 7, 7, 7, 7, 7, 7, 7, 7, 7, 7, 7, 7, 7, 7, 7, 7, 7, 7, 7, 7, 7, 7, 7, 7, 7, 7, 7, 7, 7, 7, 7, 7, 7, 7, 7, 7, 7, 7, 7, 7, 7, 7, 8, 8, 8, 8, 8, 8, 8, 8, 8, 8, 8, 8, 8, 8, 8, 8, 8, 8, 8, 8, 8, 8, 8, 8, 8, 8, 8, 8, 8, 8, 8, 8, 8, 8, 8, 8, 8, 8, 8, 8, 8, 8, 8, 8, 8, 8, 8, 8, 8, 8, 8, 8, 8, 8, 8, 8, 8, 8, 8, 8, 8, 8, 8, 8, 8, 8, 8, 8, 8, 8, 8, 8, 8, 8, 8, 8, 8, 8, 8, 8, 8, 8, 8, 8, 8, 8, 8, 8, 8, 8, 8, 8, 8, 8, 8, 8, 8, 8, 8, 8, 8, 8, 8, 8, 8, 8, 8, 8, 8, 8, 8, 8, 8, 8, 8, 8, 8, 8, 8, 8, 8, 8, 8, 8, 8, 8, 8, 8]⟩)) (.c x15) enE h14))) fun k11 =>
 cnd x10
 (kShr x7 (Value.int .u64 (.ofNat 8)) (fun x20 =>
 kI64 .add x8 (Value.int .i64 (.ofNat 8)) (fun x21 =>
 k11 x20 x21 h9)))
 (k11 x7 x8 h9))) fun k6 =>
 cnd x5
 (kShr x2 (Value.int .u64 (.ofNat 16)) (fun x22 =>
 kI64 .add x3 (Value.int .i64 (.ofNat 16)) (fun x23 =>
 k6 x22 x23 h4)))
 (k6 x2 x3 h4))) fun k1 =>
 cnd x0
 (kShr a0 (Value.int .u64 (.ofNat 32)) (fun x24 =>
 k1 x24 (Value.int .i64 (.ofNat 32)) h0))
 (k1 a0 (Value.int .i64 (.ofNat 0)) h0))
theorem q60 (R : RnK) (N : Nat) (args : List Value) (h : Hs) : r60 R N args h = callT Try.prog N R 60 args h := by kernel_rfl
noncomputable def entries : List (Nat × FnK) := [(3, r3), (5, r5), (6, r6), (7, r7), (8, r8), (9, r9), (10, r10), (11, r11), (12, r12), (13, r13), (14, r14), (15, r15), (16, r16), (17, r17), (18, r18), (19, r19), (20, r20), (21, r21), (23, r23), (24, r24), (25, r25), (26, r26), (27, r27), (28, r28), (29, r29), (30, r30), (31, r31), (32, r32), (33, r33), (34, r34), (35, r35), (36, r36), (37, r37), (38, r38), (39, r39), (40, r40), (41, r41), (42, r42), (43, r43), (44, r44), (45, r45), (46, r46), (47, r47), (49, r49), (50, r50), (60, r60)]
theorem entries_ok : AllOk Try.prog entries := ⟨q3, q5, q6, q7, q8, q9, q10, q11, q12, q13, q14, q15, q16, q17, q18, q19, q20, q21, q23, q24, q25, q26, q27, q28, q29, q30, q31, q32, q33, q34, q35, q36, q37, q38, q39, q40, q41, q42, q43, q44, q45, q46, q47, q49, q50, q60, trivial⟩
end Go.Proofs.Ytndlcnfnoiabbaa.poolPlays
