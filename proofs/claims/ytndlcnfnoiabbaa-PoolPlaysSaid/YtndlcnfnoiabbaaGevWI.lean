/- The evaluator's steps inside a round of a range over a function, and outside: laws lifted; calls of yield; the steps of a walk over a map. -/
import Derived.Test.YtndlcnfnoiabbaaGevKS
import Derived.OrdersIn
import Derived.LoopNIn
import Derived.RangeFuncLeaves
import Derived.RangeFuncCalls
namespace Go.Gev
open Go.RowKit
def FW (ro : Option Nat) : Fence := { Fence.wide with round := ro }
section
variable {P : Program} {ro : Option Nat}
theorem callsFW {f : FuncId} {args : Array Value} {w : World} {R : Ending → World → Prop} {n : Nat} (h : Calls P f args w R) : CallsIn (FW ro) n P f args w R := by
 have h1 : CallsIn Fence.wide n P f args w R := callsIn_wide.2 h
 exact h1
theorem opIn {o : Oper} {a : Act} {w : World} {next : Act → World → Prop} {Q : Exit → Act → World → Prop} (hd : ro = none ∨ ∀ c, o.op ≠ .defer c) (h : o.wp P a w next Q) : o.wpIn (FW ro) 0 P a w next Q := by
 refine ⟨fun _ _ => trivial, ?_⟩
 have hs : o.semAt (FW ro).round a.eval = execOp a.eval o := by
  rcases hd with rfl | hd
  ·rfl
  ·exact Oper.semAt_eq _ _ _ hd
 rw [hs]
 have h : o.upon P a next Q ((execOp a.eval o).run P w) := h
 generalize (execOp a.eval o).run P w = r at h
 cases r with
 | ok x w' =>
  cases x with
  | enter f args => exact ⟨(fun h => by cases h), callsFW h⟩
  | row r args =>
   refine ⟨(fun h => by cases h), fun c cs _ => ?_⟩
   obtain ⟨v, w2, h1, h2⟩ := (show Rows P r args w' _ from h) c cs
   exact ⟨v, w2, h1, stepsIn_wide.2 h2⟩
  | _ => first | exact h | exact h.elim
 | halt x w' => cases x <;> first | exact h | exact h.elim
theorem noDefL_mem {os : List Oper} (h : noDefL os = true) : ∀ o ∈ os, ∀ c, o.op ≠ .defer c := by
 induction os with
 | nil => intro o ho; cases ho
 | cons x os ih =>
  simp only [noDefL] at h
  intro o ho c e
  rcases List.mem_cons.1 ho with rfl | ho
  ·rw [e] at h; cases h
  ·split at h
   ·cases h
   ·exact ih h o ho c e
theorem anyIn {ops : Array Oper} {Q : Exit → Act → World → Prop} (hQ : ¬ LetsOut Q) (hd : ro = none ∨ noDefL ops.toList = true) : ∀ (fuel : Nat) (listed : Array Bool) (a : Act) (w : World), wpAny P .any ops Q fuel listed a w → wpAnyIn (FW ro) 0 P .any ops Q fuel listed a w := by
 intro fuel
 induction fuel with
 | zero => intro listed a w h; exact h
 | succ fuel ih =>
  intro listed a w h
  refine ⟨h.1, fun i hi => ?_⟩
  have h2 := h.2 i hi
  unfold wpOp at h2
  unfold wpOpIn
  cases ho : ops[i]? with
  | none => rw [ho] at h2; exact ih _ _ _ h2
  | some o =>
   rw [ho] at h2
   simp only at h2 ⊢
   split
   ·rename_i hw
    rw [if_pos hw] at h2
    rcases h2 with h2 | ⟨_, h2⟩
    ·refine Oper.wpIn_mono (fun a w => ih _ a w) (opIn ?_ h2)
     rcases hd with hd | hd
     ·exact .inl hd
     ·exact .inr (noDefL_mem hd o (by have : ops.toList[i]? = some o := by simpa using ho
                                      exact List.mem_of_getElem? this))
    ·exact absurd h2 hQ
   ·rename_i hw
    rw [if_neg hw] at h2
    exact ⟨fun _ _ => trivial, ih _ _ _ h2⟩
def YOk (P : Program) (R : RnK) (ρ0 : Ren) : Prop := ∀ (l : Nat) (xs : List Value) (v : Value) (h h' : Hs) (B : Nat) (ρ : Ren) (w : World) (H : Host) (xs' : Array Value),
 R YID (.chan (some l) :: xs) h = some (.val v h') → VL ρ xs xs'.toList → HR B ρ h w → ρ0.le ρ → ρ l = some H →
 ∃ fn tmps asn body, (Instr.yield H.blk xs').run P w = .ok (.round H.blk fn tmps asn body) w ∧
  RoundIn Fence.wide 0 P H.blk fn tmps asn body w (fun e w' => ∃ v' ρ', e = .returned v' ∧ VR ρ' v v' ∧ St B ρ h w ρ' h' w')
variable {R : RnK}
theorem vFunc_some {v : Value} {F : Fn → List Value → List Value → An} {o : Out} (h : vFunc v F = some o) : ∃ fn first cap, v = .func fn first cap ∧ F fn first.toList cap.toList = some o := by
 cases v <;> first | exact ⟨_, _, _, rfl, h⟩ | cases h
theorem callV_wp (hN : Named P) (G : Good P (toRn R)) (hcall : HC P (toRn R)) {ρ0 : Ren} (hY : YOk P R ρ0) {cx : Cx} {o : Oper} {c : Call} {x : Operand} {y : GX} {ys : List GX} (ho : o.op = .call c) (hc : c.callee = .value x) (hnf : ∀ f, x ≠ .func f)
 (hx : gx cx x = some y) (hxs : gxs cx c.args.toList = some ys) {en : En} {h : Hs} {B : Nat} {ρ : Ren} {a : Act} {w : World} {K : KV} {out : Out} {next : Act → World → Prop} {Q : Exit → Act → World → Prop} (E : EnR ρ cx en a.tmps) (Rl : HR B ρ h w) (hle : ρ0.le ρ)
 (he : kCallV R (ev en y) (evL en ys) h K = some out) (hk : ∀ v h' v' w' ρ', K v h' = some out → VR ρ' v v' → St B ρ h w ρ' h' w' → next (a.put o.dst v') w') : o.wpIn (FW ro) 0 P a w next Q := by
 have hnd : ∀ c', o.op ≠ .defer c' := fun c' e => by rw [ho] at e; cases e
 have hv := gx_VR (a := a) E hx
 have e3 := gxs_VL (a := a) E hxs
 obtain ⟨fn, first, cap, hev, he⟩ := vFunc_some he
 rw [hev] at hv
 generalize hq : a.eval x = fv at hv
 cases fn with
 | func g =>
  obtain ⟨v, h2, hr, hv2⟩ := kCall_some he
  cases hv with
  | func _ _ f' _ c' hn h1 h2' h3 h4 =>
   refine opIn (.inr hnd) ?_
   have e1 := VL.arr h1 h2'
   have e2 := VL.arr h3 h4
   have hl : VL ρ (first.toList ++ evL en ys ++ cap.toList) (f' ++ c.args.map a.eval ++ c').toList := by
    have := (e1.append e3).append e2
    simpa using this
   have hr' : toRn R (.call g (first.toList ++ evL en ys ++ cap.toList)) .e h = some (.val v h2) := hr
   obtain ⟨gg, hg⟩ := hcall _ _ _ _ _ _ _ hl hr'
   have hcl := G.call g _ _ v h h2 B ρ w hr' hl Rl
   unfold Oper.wp
   have hex : (execOp a.eval o).run P w = (callFunc g (f' ++ c.args.map a.eval ++ c')).run P w := by
    cases x with
    | func f => exact absurd rfl (hnf f)
    | _ => simp [execOp, ho, resolve, hc, hq, Deferred.ofValue, invoke]
   rw [hex, callFunc_run hN hg]
   simp only [Oper.upon]
   refine hcl.mono fun e w' he2 => ?_
   obtain ⟨v', ρ', rfl, h1, h3⟩ := he2
   exact hk v h2 v' w' ρ' hv2 h1 h3
 | yield l =>
  obtain ⟨v, h2, hr, hv2⟩ := kCall_some he
  cases hv with
  | func _ _ f' _ c' hn _ _ _ _ => exact absurd rfl (hn l)
  | yield _ H hH =>
   obtain ⟨fn, tmps, asn, body, hy, hrd⟩ := hY l (evL en ys) v h h2 B ρ w H (c.args.map a.eval) hr (by simpa using e3) Rl hle hH
   refine ⟨fun _ _ => trivial, ?_⟩
   rw [Oper.semAt_eq _ _ _ hnd]
   have hex : (execOp a.eval o).run P w = (Instr.yield H.blk (c.args.map a.eval)).run P w := by
    cases x with
    | func f => exact absurd rfl (hnf f)
    | _ => simp [execOp, ho, resolve, hc, hq, Deferred.ofValue, invoke]
   rw [hex, hy]
   refine ⟨(fun h => by cases h), ?_⟩
   have hrd2 : RoundIn (FW ro) (0 - 1) P H.blk fn tmps asn body w (fun e w' => ∃ v' ρ', e = .returned v' ∧ VR ρ' v v' ∧ St B ρ h w ρ' h2 w') := hrd
   refine hrd2.mono fun e w' hp => ?_
   obtain ⟨v', ρ', rfl, q1, q2⟩ := hp
   exact hk v h2 v' w' ρ' hv2 q1 q2
 | _ => cases he
theorem allA_some {l : List An} {o : Out} (h : allA l = some o) : ∀ x ∈ l, x = some o := by
 cases l with
 | nil => cases h
 | cons a l => cases l with
  | nil => intro x hx; simp at hx; rw [hx]; exact h
  | cons b l =>
   by_cases hall : ∀ x ∈ b :: l, x = a
   ·have h2 : allA (a :: b :: l) = a := by unfold allA; exact if_pos hall
    rw [h2] at h
    intro x hx
    rcases List.mem_cons.1 hx with rfl | hx
    ·exact h
    ·exact (hall x hx).trans h
   ·have h2 : allA (a :: b :: l) = none := by unfold allA; exact if_neg hall
    rw [h2] at h; cases h
theorem leftE_ME {ρ : Ren} {seen : List Nat} : ∀ {es es' : List MapEntry}, ME ρ es es' → ME ρ (leftE seen es) (es'.filter fun e => !seen.toArray.contains e.born) := by
 intro es es' m
 induction m with
 | nil => exact .nil
 | @cons a a' as as' hk hb hv _ ih =>
  have e1 : (seen.toArray.contains a'.born) = seen.contains a.born := by rw [hb]; simp
  simp only [leftE, List.filter_cons, e1]
  cases hs : seen.contains a.born with
  | true => simpa using ih
  | false => simpa using ME.cons hk hb hv ih
theorem ME.mem {ρ : Ren} {es es' : List MapEntry} (m : ME ρ es es') : ∀ e' ∈ es', ∃ e ∈ es, e'.key = e.key ∧ e'.born = e.born ∧ VR ρ e.val e'.val := by
 induction m with
 | nil => intro e' h; cases h
 | @cons a a' as as' hk hb hv _ ih =>
  intro e' h
  rcases List.mem_cons.1 h with rfl | h
  ·exact ⟨a, List.mem_cons_self, hk, hb, hv⟩
  ·obtain ⟨e, q1, q2⟩ := ih e' h
   exact ⟨e, List.mem_cons_of_mem _ q1, q2⟩
theorem bornOk_true {s : Nat} {es : List MapEntry} (h : bornOk s es = true) : isBig es = false ∧ bornLt s es = true := by
 unfold bornOk at h
 cases hb : isBig es with
 | true => rw [hb] at h; cases h
 | false => rw [hb] at h; exact ⟨rfl, h⟩
theorem bornLt_ME {ρ : Ren} {s : Nat} {es es' : List MapEntry} (m : ME ρ es es') (h : bornLt s es = true) : ∀ e' ∈ es', e'.born < s := by
 induction m with
 | nil => intro e' h; cases h
 | @cons a a' as as' hk hb hv _ ih =>
  simp only [bornLt] at h
  cases hs : Nat.blt a.born s with
  | false => rw [hs] at h; cases h
  | true =>
   rw [hs] at h
   rw [blt_eq] at hs
   intro e' he
   rcases List.mem_cons.1 he with rfl | he
   ·rw [hb]; simpa using hs
   ·exact ih h e' he
theorem next_wp {o : Oper} {cx : Cx} {x : Operand} {y : GX} (ho : o.op = .next x false) (hx : gx cx x = some y) {en : En} {h : Hs} {B : Nat} {ρ : Ren} {a : Act} {w : World} {K : KV} {out : Out} {next : Act → World → Prop} {Q : Exit → Act → World → Prop} (E : EnR ρ cx en a.tmps) (Rl : HR B ρ h w)
 (he : kNext (ev en y) h K = some out) (hk : ∀ v h' v' w' ρ', K v h' = some out → VR ρ' v v' → St B ρ h w ρ' h' w' → next (a.put o.dst v') w') : o.wp P a w next Q := by
 have hv := gx_VR (a := a) E hx
 unfold kNext at he
 obtain ⟨b, off, hev, he⟩ := kAddr_some he
 cases off with
 | succ n => cases he
 | zero =>
 obtain ⟨Bk, hb, he⟩ := getB_some he
 rw [hev] at hv
 cases Bk with
 | row => cases he
 | mp => cases he
 | lp => cases he
 | it m since seen la =>
  generalize hq : a.eval x = fv at hv
  cases hv with
  | ptr _ _ H hH =>
  obtain ⟨H0, he0, hB, hcase⟩ := Rl.has b _ hb
  rw [hH] at he0
  injection he0 with he0
  subst he0
  have hex : ∀ r, (Instr.next (.pointer (some ⟨H.blk, 0, none⟩)) false o.type).run P w = r → (execOp a.eval o).run P w = r.andThen fun v w => .ok (.value v) w := fun r hr => by
   simp only [execOp, ho, hq, hB.2, Nat.zero_add, Sem.run_bind, hr, Sem.run_pure]
  rcases hcase with ⟨rfl, hit⟩ | ⟨k, Hm, rfl, hkm, hit⟩
  ·have he : K (.tuple #[.bool false]) h = some out := he
   have hn : (Instr.next (.pointer (some ⟨H.blk, 0, none⟩)) false o.type).run P w = .ok (.tuple #[.bool false]) w := by
    simp only [Instr.next, getObj, Sem.run_bind, Sem.run, hit, Result.andThen]
    rfl
   unfold Oper.wp
   rw [hex _ hn]
   exact hk _ _ _ w ρ he (VR.tuple_of (xs := [.bool false]) (ys := [.bool false]) (.cons (.bool _) .nil)) (St.refl Rl)
  ·have he : getB h k (fun Bm => Blk.rec (motive := fun _ => An) (fun _ _ _ _ _ _ => none) (fun es cl => nextM h b k since seen la K es cl) (fun _ _ _ _ => none) (fun _ => none) Bm) = some out := he
   obtain ⟨Bm, hbm, he⟩ := getB_some he
   cases Bm with
   | mp es cl =>
    have he : nextM h b k since seen la K es cl = some out := he
    unfold nextM at he
    cases hck : andB (bornOk since es) (Nat.ble since la) with
    | false => rw [hck] at he; cases he
    | true =>
     rw [hck] at he
     simp only at he
     obtain ⟨hc1, hc2⟩ := andB_true hck
     obtain ⟨hc0, hc1⟩ := bornOk_true hc1
     obtain ⟨Hm', es', hm0, hBm, hhm, hme⟩ := Rl.has k _ hbm
     have hme := hme.me hc0
     rw [hkm] at hm0
     injection hm0 with hm0
     subst hm0
     have hlm := leftE_ME (seen := seen) hme
     rcases run_next_at (P := P) w o.type H.blk Hm.blk since la seen.toArray es' cl hit hhm (bornLt_ME hme hc1) (Nat.le_of_ble_eq_true hc2) with ⟨h0, hn⟩ | ⟨e', he', w1, hw1, hn⟩
     ·have hl : leftE seen es = [] := by
       have h1 : (es'.toList.filter fun e => !seen.toArray.contains e.born) = [] := by
        have := Array.eq_empty_of_size_eq_zero h0
        unfold leftOf at this
        have := congrArg Array.toList this
        simpa using this
       rw [h1] at hlm
       generalize leftE seen es = L at hlm ⊢
       cases hlm
       rfl
      rw [hl] at he
      have he : K (.tuple #[.bool false]) h = some out := he
      unfold Oper.wp
      rw [hex _ hn]
      exact hk _ _ _ w ρ he (VR.tuple_of (xs := [.bool false]) (ys := [.bool false]) (.cons (.bool _) .nil)) (St.refl Rl)
     ·have hm : e' ∈ es'.toList.filter fun e => !seen.toArray.contains e.born := by
       unfold leftOf at he'
       simpa using he'
      obtain ⟨e, q1, q2, q3, q4⟩ := hlm.mem e' hm
      have he : allA ((leftE seen es).map (nextE h b k since seen cl K)) = some out := by
       cases hl : leftE seen es with
       | nil => rw [hl] at q1; cases q1
       | cons u us => rw [hl] at he; exact he
      have hone := allA_some he _ (List.mem_map_of_mem q1)
      unfold nextE at hone
      cases hkc : keyC e.key with
      | false => rw [hkc] at hone; cases hone
      | true =>
       rw [hkc] at hone
       simp only at hone
       have hw1h : w1.heap = w.heap := by rcases hw1 with rfl | rfl <;> rfl
       have R1 : HR B ρ h w1 := Rl.of_heap hw1h
       have sd : St B ρ h w ρ h w1 := by
        rcases hw1 with rfl | rfl
        ·exact St.refl Rl
        ·exact St.draw Rl
       have hs2 := step_put (b2 := .it (some k) since (seen ++ [e.born]) cl) R1 hb rfl rfl hH hB.1 (.mapIter (some Hm.blk) since (seen.toArray.push e'.born) cl)
        ⟨H, hH, hB, .inr ⟨k, Hm, rfl, hkm, by
         show (w1.heap.setIfInBounds H.blk _)[H.blk]? = _
         have hlt : H.blk < w1.heap.size := by rw [hw1h]; exact (Array.getElem?_eq_some_iff.1 hit).1
         rw [Array.getElem?_setIfInBounds, if_pos rfl, if_pos hlt, q3]
         simp⟩⟩
       unfold Oper.wp
       rw [hex _ hn]
       refine hk _ _ _ _ ρ hone (VR.tuple_of (xs := [.bool true, e.key, e.val]) (ys := [.bool true, e'.key, e'.val]) (.cons (.bool _) (.cons (by rw [q2]; exact okC_VR' hkc) (.cons q4 .nil)))) ?_
       have := St.trans Rl sd hs2
       rw [setK_eq]
       exact this
   | _ => cases he
theorem opY_wp (hN : Named P) (G : Good P (toRn R)) (hcall : HC P (toRn R)) {ρ0 : Ren} (hY : YOk P R ρ0) {cx : Cx} {o : Oper} (hd : ro = none ∨ ∀ c, o.op ≠ .defer c) {en : En} {h : Hs} {B : Nat} {ρ : Ren} {a : Act} {w : World} {K : KV} {out : Out}
 {next : Act → World → Prop} {Q : Exit → Act → World → Prop} (E : EnR ρ cx en a.tmps) (Rl : HR B ρ h w) (hle : ρ0.le ρ) (he : kRun (kopY P cx o) R en h K = some out)
 (hk : ∀ v h' v' w' ρ', K v h' = some out → VR ρ' v v' → St B ρ h w ρ' h' w' → next (a.put o.dst v') w') : o.wpIn (FW ro) 0 P a w next Q := by
 have plain : kRun (kop P cx o) R en h K = some out → o.wpIn (FW ro) 0 P a w next Q := fun he => opIn hd (op_wp hN G hcall E Rl (kRun_some (kop_rel P _ o) he) hk)
 unfold kopY at he
 split at he
 ·rename_i c ho
  split at he
  ·exact plain he
  ·rename_i x hnf hc
   split at he
   ·rename_i y hx
    split at he
    ·rename_i ys hxs
     exact callV_wp hN G hcall hY ho hc (fun f e => hnf f e) hx hxs E Rl hle he hk
    ·exact plain he
   ·exact plain he
  ·exact plain he
 ·rename_i x s ho
  split at he
  ·split at he
   ·rename_i y hx
    exact opIn (.inr fun c e => by rw [ho] at e; cases e) (next_wp ho hx E Rl he hk)
   ·exact plain he
  ·exact plain he
 ·exact plain he
theorem kOps_wp (hN : Named P) (G : Good P (toRn R)) (hcall : HC P (toRn R)) {ρz : Ren} (hY : YOk P R ρz) {N : Nat} {sl : List Nat} {ops : Array Oper} (hdf : ro = none ∨ noDefL ops.toList = true) {B : Nat} {df0 : List Deferred} {ρ0 : Ren} {h0 : Hs} {w0 : World} (R0 : HR B ρ0 h0 w0) (hz : ρz.le ρ0)
 {Kn : Fr → Hs → An} {out : Out} {fr0 : Fr} {Q : Exit → Act → World → Prop}
 (hQ : ∀ fr' h' a' w' ρ', Kn fr' h' = some out → Agr (msOf sl (opsMods sl ops.toList)) fr0 fr' → FrR ρ' sl N fr' a'.tmps → St B ρ0 h0 w0 ρ' h' w' → a'.defers = df0 → Q .normal a' w') :
 ∀ (rest : List Oper) (k : Nat) (df : List (Option Nat)) (fr : Fr) (loc : List Value) (h : Hs) (ρ : Ren) (a : Act) (w : World), ops.toList.drop k = rest → k + rest.length = ops.size → cOps R (kopers P N sl ops rest df) fr loc h Kn = some out →
  LoR ρ sl N fr loc df a.tmps → St B ρ0 h0 w0 ρ h w → a.defers = df0 → Agr (msOf sl (opsMods sl ops.toList)) fr0 fr → wpOpsIn (FW ro) 0 P ops Q (List.range' k rest.length) a w := by
 intro rest
 induction rest with
 | nil =>
  intro k df fr loc h ρ a w _ _ hr L S hd hA
  exact hQ fr h a w ρ hr hA L.toFrR S hd
 | cons o rest ih =>
  intro k df fr loc h ρ a w hdrop hlen hr L S hd hA
  have hok : ops[k]? = some o := by
   have : (ops.toList.drop k)[0]? = some o := by rw [hdrop]; rfl
   simpa using this
  have hmem : o ∈ ops.toList := by
   have : ops.toList[k]? = some o := by simpa using hok
   exact List.mem_of_getElem? this
  have hdrop2 : ops.toList.drop (k + 1) = rest := by
   have : (ops.toList.drop k).drop 1 = rest := by rw [hdrop]; rfl
   rw [← this, List.drop_drop]
  have hA2 : ∀ v, Agr (msOf sl (opsMods sl ops.toList)) fr0 (put (match o.dst with | none => none | some t => slot sl t) v fr) := fun v => hA.trans (Agr.put fun p hp => by
   cases hdst : o.dst with
   | none => rw [hdst] at hp; cases hp
   | some t =>
    rw [hdst] at hp
    exact bitOf_mem hp (opsMods_mem hmem hdst))
  have hr : gK (goper P (plainCx sl df) sl ops o).guard ⟨fr, loc⟩ h (kRun (kopY P (plainCx sl df) o) R ⟨fr, loc⟩ h) (fun v h' => cOps R (kopers P N sl ops rest (dstOf N o :: df)) (put (match o.dst with | none => none | some t => slot sl t) v fr) (v :: loc) h' Kn) = some out := hr
  simp only [List.length_cons, List.range'_succ, wpOpsIn, hok]
  rcases gK_some hr with ⟨hg, hr⟩ | ⟨hg, hr⟩
  ·have hw := goes_spec L (ops := ops) (o := o) hg
   rw [hw]
   simp only [if_true]
   refine opY_wp hN G hcall hY (hdf.imp id fun h => noDefL_mem h o hmem) L.en S.hr (Ren.le_trans hz S.le) hr (fun v h1 v' w' ρ' hK hv hst => ?_)
   exact ih (k + 1) _ _ _ h1 ρ' (a.put o.dst v') w' hdrop2 (by simp at hlen; omega) hK ((L.mono hst.le).put hv) (St.trans R0 S hst) (by rw [put_defers]; exact hd) (hA2 v)
  ·have hw := goes_spec L (ops := ops) (o := o) hg
   rw [hw]
   simp only [Bool.false_eq_true, if_false]
   refine ⟨fun _ _ => trivial, ?_⟩
   exact ih (k + 1) _ _ _ h ρ (a.put o.dst undef) w hdrop2 (by simp at hlen; omega) hr (L.put VR.undef_inv) S (by rw [put_defers]; exact hd) (hA2 undef)
end
end Go.Gev
