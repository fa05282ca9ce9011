/- A part of the proof. -/
import Derived.Test.YtkhjbbigangbdaaGreatDoorM06
import Derived.Test.YtkhjbbigangbdaaGreatDoorChecked
import Derived.KernelRfl
set_option linter.all false
namespace Go.Xe
open Go
abbrev Hint := List (Nat × Value)
def hintOf : Hint → Nat → Option Value
 | [], _ => none
 | (i, v) :: r, d => if i = d then some v else hintOf r d
def hfix (H : Hint) (dst : Option Tmp) (v : Value) : Y Value :=
 match dst with
 | some d => match hintOf H d with
  | some g => .req (same v g) (.pure g)
  | none => .pure v
 | none => .pure v
theorem hfix_is {H : Hint} {dst : Option Tmp} {v g : Value} (h : hfix H dst v = some (true, g)) : g = v := by
 unfold hfix at h
 split at h
 ·split at h
  ·simp only [Y.req_is, Y.pure_is] at h
   rw [← h.2]; exact (same_eq h.1).symm
  ·simp only [Y.pure_is] at h; exact h.symm
 ·simp only [Y.pure_is] at h; exact h.symm
section
variable (P : Program) (okF : FuncId → Bool) (call : YCall) (H : Hint)
def hops (ops : Array Oper) : List Oper → XAct → St → Path → Y ((XAct × St) × Path)
 | [], a, S, p => .pure ((a, S), p)
 | o :: r, a, S, p => (ywanted ops a o p).bind fun w => match w.1 with
  | false => hops ops r (putX a o.dst undefX) S w.2
  | true => (yrun P okF call S (evalX S a) o w.2).bind fun x => (hfix H o.dst x.1.1).bind fun g => hops ops r (putX a o.dst g) x.1.2 x.2
variable (ops : Array Oper) (ms : List Nat) (base : Nat)
def hstepD (i : Nat) (o : Oper) (d : Dr) (zs : List (Bool × Bool)) (p : Path) : Y ((Dr × List (Bool × Bool)) × Path) :=
 (ywanted ops d.a o p).bind fun w => match w.1 with
 | false => .pure (({ d with a := putX d.a o.dst undefX }, zs), w.2)
 | true =>
  if isA o.op then (yal P (evalR d.V d.a (o.looksAt ops)) o.op).bind fun es => .pure (({ d with a := putX d.a o.dst (es.2 (base + i)), «as» := d.«as» ++ [(i, es.1)] }, zs), w.2)
  else if isQ P o.op then match yzf P o.op w.2 with
   | none => none
   | some (zf, p1) => (yop P okF (addAs d.V base (fun x => (ms.getD i 0).testBit x && !d.ab.testBit x) d.«as») (evalR d.V d.a (o.looksAt ops)) o zf.1 zf.2).bind fun r => match r.1 with
    | .val v => (hfix H o.dst v).bind fun g => .pure (({ d with a := putX d.a o.dst g, qs := d.qs ++ [⟨i, o, d.a, g⟩] }, zs ++ [zf]), p1)
    | _ => none
  else if d.ws.all (fun w => (ms.getD i 0).testBit w) then
   (yrun P okF call (addAs d.V base (fun x => (ms.getD i 0).testBit x && !d.ab.testBit x) d.«as») (evalR d.V d.a (o.looksAt ops)) o w.2).bind fun x =>
    .pure (({ a := putX d.a o.dst x.1.1, V := x.1.2, hist := d.hist ++ [(x.1.2, d.ab ||| ms.getD i 0)], ws := d.ws ++ [i], «as» := d.«as», ab := d.ab ||| ms.getD i 0, qs := d.qs }, zs), x.2)
  else none
def hrunD : List Oper → Nat → Dr → List (Bool × Bool) → Path → Y ((Dr × List (Bool × Bool)) × Path)
 | [], _, d, zs, p => .pure ((d, zs), p)
 | o :: r, i, d, zs, p => (hstepD P okF call H ops ms base i o d zs p).bind fun x => hrunD r (i + 1) x.1.1 x.1.2 x.2
def hdraw (a : XAct) (S : St) (p : Path) : Y ((XAct × St) × Path) :=
 let V0 : St := { S with next := S.next + ops.toList.length }
 (hrunD P okF call H ops (masks ops.toList) S.next ops.toList 0 { a := a, V := V0, hist := [(V0, 0)], ws := [], «as» := [], ab := 0, qs := [] } [] p).bind fun x =>
  if x.1.1.ws.isEmpty then .pure ((x.1.1.a, addAs x.1.1.V S.next (fun y => !x.1.1.ab.testBit y) x.1.1.«as»), x.2)
  else (ycheckQs P okF ops (masks ops.toList) S.next x.1.1 x.1.1.qs x.1.2).bind fun _ => .pure ((x.1.1.a, addAs x.1.1.V S.next (fun y => !x.1.1.ab.testBit y) x.1.1.«as»), x.2)
end
section
variable (P : Program) (okF : FuncId → Bool) (call : YCall) (fg : Nat → Option Nat) (H : Hint)
def hcode : Nat → Code → XAct → St → Path → YOut
 | 0, _, _, _, _ => none
 | n + 1, c, a, S, p => match c with
  | .skip => .pure ((.normal, a, S), p)
  | .region id ops false => (hops P okF call H ops ops.toList a S p).bind fun x => .pure ((.normal, drop (fg id) x.1.1, x.1.2), x.2)
  | .region id ops true => (hdraw P okF call H ops a S p).bind fun x => .pure ((.normal, drop (fg id) x.1.1, x.1.2), x.2)
  | .seq x y => (hcode n x a S p).bind fun r => match r.1.1 with
   | .normal => hcode n y r.1.2.1 r.1.2.2 r.2
   | _ => .pure r
  | .cond c x y => match evalX S a c, p with
   | some (.bool b), w :: p' => .req (if w then b else !b) (if w then hcode n x a S p' else hcode n y a S p')
   | _, _ => none
  | .block id c => (hcode n c a S p).bind fun r => match r.1.1 with
   | .exit i => if i = id then .pure ((.normal, r.1.2), r.2) else .pure r
   | _ => .pure r
  | .exit id => .pure ((.exit id, a, S), p)
  | .ret => .pure ((.ret, a, S), p)
  | .label _ => .pure ((.normal, a, S), p)
  | _ => none
end
section
variable {P : Program} {okF : FuncId → Bool} {yc : YCall} {xc : XCall} {fg : Nat → Option Nat} {H : Hint}
theorem hops_is (hc : YX yc xc) (ops : Array Oper) : ∀ (l : List Oper) (a : XAct) (S : St) (p p' : Path) (r : XAct × St), hops P okF yc H ops l a S p = some (true, (r, p')) → xops P okF xc ops l a S = some r
 | [], a, S, p, p', r, h => by
  simp only [hops, Y.pure_is, Prod.mk.injEq] at h
  simp only [xops, h.1]
 | o :: l, a, S, p, p', r, h => by
  simp only [hops, Y.bind_is] at h
  obtain ⟨⟨w, p1⟩, h1, h2⟩ := h
  simp only [xops, ywanted_is h1]
  cases w with
  | false => exact hops_is hc ops l _ _ _ _ _ h2
  | true =>
   simp only [Y.bind_is] at h2
   obtain ⟨⟨⟨v, T⟩, p2⟩, h3, g, h4, h5⟩ := h2
   simp only at h4 h5
   rw [hfix_is h4] at h5
   simp only [yrun_is hc h3]
   exact hops_is hc ops l _ _ _ _ _ h5
theorem hstepD_is (hc : YX yc xc) {ops : Array Oper} {ms : List Nat} {base i : Nat} {o : Oper} {d d' : Dr} {zs zs' : List (Bool × Bool)} {p p' : Path} (h : hstepD P okF yc H ops ms base i o d zs p = some (true, ((d', zs'), p'))) :
 stepD P okF xc ops ms base i o d = some d' := by
 unfold hstepD at h
 simp only [Y.bind_is] at h
 obtain ⟨⟨w, p1⟩, h1, h2⟩ := h
 unfold stepD
 rw [ywanted_is h1]
 cases w with
 | false => simp only [Y.pure_is, Prod.mk.injEq] at h2 ⊢; rw [← h2.1.1]
 | true =>
  simp only at h2 ⊢
  split at h2
  ·rename_i hA
   rw [if_pos hA]
   simp only [Y.bind_is, Y.pure_is, Prod.mk.injEq] at h2
   obtain ⟨es, hx, h3⟩ := h2
   simp only [yal_is hx, h3.1.1]
  ·rename_i hA
   rw [if_neg hA]
   split at h2
   ·rename_i hQ
    rw [if_pos hQ]
    split at h2
    ·cases h2
    ·simp only [Y.bind_is] at h2
     obtain ⟨⟨res, T⟩, h3, h4⟩ := h2
     simp only [yop_is h3]
     cases res with
     | val v =>
      simp only [Y.bind_is, Y.pure_is, Prod.mk.injEq] at h4 ⊢
      obtain ⟨g, h5, h6⟩ := h4
      rw [hfix_is h5] at h6
      rw [← h6.1.1]
     | skip => cases h4
     | enter g args => cases h4
   ·rename_i hQ
    rw [if_neg hQ]
    split at h2
    ·rename_i hall
     rw [if_pos hall]
     simp only [Y.bind_is] at h2
     obtain ⟨⟨⟨v, T⟩, p2⟩, h3, h4⟩ := h2
     simp only [Y.pure_is, Prod.mk.injEq] at h4
     simp only [yrun_is hc h3, h4.1.1]
    ·cases h2
theorem hrunD_is (hc : YX yc xc) {ops : Array Oper} {ms : List Nat} {base : Nat} : ∀ (l : List Oper) (i : Nat) (d d' : Dr) (zs zs' : List (Bool × Bool)) (p p' : Path), hrunD P okF yc H ops ms base l i d zs p = some (true, ((d', zs'), p')) →
 runD P okF xc ops ms base l i d = some d'
 | [], i, d, d', zs, zs', p, p', h => by
  simp only [hrunD, Y.pure_is, Prod.mk.injEq] at h
  simp only [runD, h.1.1]
 | o :: l, i, d, d', zs, zs', p, p', h => by
  simp only [hrunD, Y.bind_is] at h
  obtain ⟨⟨⟨d1, zs1⟩, p1⟩, h1, h2⟩ := h
  simp only [runD, hstepD_is hc h1]
  exact hrunD_is hc l _ _ _ _ _ _ _ h2
theorem hdraw_is (hc : YX yc xc) {ops : Array Oper} {a : XAct} {S : St} {p p' : Path} {r : XAct × St} (h : hdraw P okF yc H ops a S p = some (true, (r, p'))) : xdraw P okF xc ops a S = some r := by
 unfold hdraw at h
 simp only [Y.bind_is] at h
 obtain ⟨⟨⟨d, zs⟩, p1⟩, h1, h2⟩ := h
 unfold xdraw
 simp only [hrunD_is hc _ _ _ _ _ _ _ _ h1]
 split at h2
 ·rename_i hw
  simp only [Y.pure_is, Prod.mk.injEq] at h2
  simp only [hw, Bool.true_or, if_true, h2.1]
 ·simp only [Y.bind_is] at h2
  obtain ⟨u, h3, h4⟩ := h2
  simp only [Y.pure_is, Prod.mk.injEq] at h4
  simp only [ycheckQs_is _ _ _ h3, Bool.or_true, if_true, h4.1]
theorem hcode_is (hc : YX yc xc) : ∀ (n : Nat) (c : Code) (a : XAct) (S : St) (p p' : Path) (r : XE × XAct × St), hcode P okF yc fg H n c a S p = some (true, (r, p')) → xcode P okF xc fg n c a S = some r := by
 intro n
 induction n with
 | zero => intro c a S p p' r h; simp [hcode] at h
 | succ n ih =>
  intro c a S p p' r h
  cases c with
  | skip => simp only [hcode, Y.pure_is, Prod.mk.injEq] at h; simp only [xcode, h.1]
  | region id ops d =>
   cases d with
   | false =>
    simp only [hcode, Y.bind_is, Y.pure_is, Prod.mk.injEq] at h
    obtain ⟨⟨x, p1⟩, h1, h2, _⟩ := h
    simp only [xcode, hops_is hc _ _ _ _ _ _ _ h1, xnorm, ← h2]
   | true =>
    simp only [hcode, Y.bind_is, Y.pure_is, Prod.mk.injEq] at h
    obtain ⟨⟨x, p1⟩, h1, h2, _⟩ := h
    simp only [xcode, hdraw_is hc h1, xnorm, ← h2]
  | seq x y =>
   simp only [hcode, Y.bind_is] at h
   obtain ⟨⟨⟨e, a1, S1⟩, p1⟩, h1, h2⟩ := h
   simp only [xcode, ih _ _ _ _ _ _ h1, XOut.then]
   cases e with
   | normal => exact ih _ _ _ _ _ _ h2
   | exit i => simp only [Y.pure_is, Prod.mk.injEq] at h2; simp only [← h2.1]
   | ret => simp only [Y.pure_is, Prod.mk.injEq] at h2; simp only [← h2.1]
  | cond c x y =>
   simp only [hcode] at h
   simp only [xcode]
   split at h
   ·rename_i b w p1 hb
    simp only [Y.req_is] at h
    obtain ⟨h1, h2⟩ := h
    cases w with
    | true =>
     simp only [if_true] at h1 h2
     subst h1
     simp only [hb]
     exact ih _ _ _ _ _ _ h2
    | false =>
     simp only [Bool.false_eq_true, if_false, Bool.not_eq_true'] at h1 h2
     subst h1
     simp only [hb]
     exact ih _ _ _ _ _ _ h2
   ·cases h
  | block id c =>
   simp only [hcode, Y.bind_is] at h
   obtain ⟨⟨⟨e, a1, S1⟩, p1⟩, h1, h2⟩ := h
   simp only [xcode, ih _ _ _ _ _ _ h1, XOut.block]
   cases e with
   | normal => simp only [Y.pure_is, Prod.mk.injEq] at h2; simp only [h2.1]
   | exit i =>
    simp only at h2
    split at h2
    ·rename_i hi; simp only [Y.pure_is, Prod.mk.injEq] at h2; simp only [hi, if_true, h2.1]
    ·rename_i hi; simp only [Y.pure_is, Prod.mk.injEq] at h2; simp only [hi, if_false, h2.1]
   | ret => simp only [Y.pure_is, Prod.mk.injEq] at h2; simp only [h2.1]
  | loop c => simp [hcode] at h
  | exit id => simp only [hcode, Y.pure_is, Prod.mk.injEq] at h; simp only [xcode, h.1]
  | ret => simp only [hcode, Y.pure_is, Prod.mk.injEq] at h; simp only [xcode, h.1]
  | label l => simp only [hcode, Y.pure_is, Prod.mk.injEq] at h; simp only [xcode, h.1]
  | rangeFunc _ _ _ _ => simp [hcode] at h
  | scope _ => simp [hcode] at h
  | goto _ => simp [hcode] at h
  | refuse _ => simp [hcode] at h
theorem Runs.hpath {call : XCall} {c : Code} {a a' : XAct} {S S' : St} {e : XE} (hc : YX yc call) {n : Nat} {p p' : Path} {C : Bool} (h : hcode P okF yc fg H n c a S p = some (C, ((e, a', S'), p'))) (hC : C = true) : Runs P okF call fg c a S e a' S' := by
 subst hC
 exact ⟨n, hcode_is hc _ _ _ _ _ _ _ h⟩
end
section
variable {P : Program} {okF : FuncId → Bool} {call : XCall} {fg : Nat → Option Nat}
def SR (P : Program) (c : Code) (a : XAct) (S : St) (e : XE) (a' : XAct) (S' : St) : Prop :=
 ∀ (α : Place) (w : World) (act : Act) (Q : Exit → Act → World → Prop), Rel α S w → ARel α a act.tmps → Leaves Q α S w act e a' S' → c.wp P Q act w
def SL (P : Program) (n : Nat) (c : Code) (a : XAct) (S : St) (e : XE) (a' : XAct) (S' : St) : Prop :=
 ∀ (α : Place) (w : World) (act : Act) (Q : Exit → Act → World → Prop), Rel α S w → ARel α a act.tmps → Leaves Q α S w act e a' S' → Code.rounds P c Q n act w
variable {c x y : Code} {a a1 a' : XAct} {S S1 S' T : St} {e : XE} {id n : Nat}
theorem SR.of (hm : P.follows .mixedOrders = true) (hF : OkF P okF) (hC : CallSound P call) (hg : goodCode c = true) (h : Runs P okF call fg c a S e a' S') : SR P c a S e a' S' := by
 obtain ⟨n, h⟩ := h
 exact fun α w act Q hr ha hQ => (xcode_sound hm hF hC n).1 c a S α w act e a' S' Q hg hr ha h hQ
structure Less (T S : St) : Prop where
 heap : ∀ i e, T.heap.get i = some e → S.heap.get i = some e
 next : S.next ≤ T.next
 glob : T.glob = S.glob
theorem Next.less {α β : Place} {w w' : World} (h : Next α S w β S' w') (l : Less T S') : Next α S w β T w' := by
 have h1 := h.widen (m := T.next) l.next
 exact h1.same (fun i e hi => l.heap i e hi) rfl l.glob
theorem SR.seq (h : SR P x a S .normal a1 S1) (h' : SR P y a1 S1 e a' S') : SR P (.seq x y) a S e a' S' :=
 fun α w act Q hr ha hQ => wp_seq (h α w act _ hr ha (fun β w' act' hn ha' hd => h' β w' act' _ hn.rel ha' (fun γ w'' act'' hn' ha'' hd' => hQ γ w'' act'' (hn.trans hn') ha'' (hd'.trans hd))))
theorem SR.seq_ret (h : SR P x a S .ret a1 S1) : SR P (.seq x y) a S .ret a1 S1 :=
 fun α w act Q hr ha hQ => wp_seq (h α w act _ hr ha (fun β w' act' hn ha' hd => hQ β w' act' hn ha' hd))
theorem SR.block_exit (h : SR P c a S (.exit id) a1 S1) : SR P (.block id c) a S .normal a1 S1 :=
 fun α w act Q hr ha hQ => wp_block (h α w act _ hr ha (fun β w' act' hn ha' hd => by
  simp only [XE.to, Exit.inBlock, if_true]
  exact hQ β w' act' hn ha' hd))
theorem SR.block (h : SR P c a S .normal a1 S1) : SR P (.block id c) a S .normal a1 S1 :=
 fun α w act Q hr ha hQ => wp_block (h α w act _ hr ha (fun β w' act' hn ha' hd => hQ β w' act' hn ha' hd))
theorem SL.exit (h : SR P c a S (.exit id) a1 S1) : SL P (n + 1) c a S (.exit id) a1 S1 := fun α w act Q hr ha hQ => by
 rw [rounds_succ]
 exact h α w act _ hr ha (fun β w' act' hn ha' hd => hQ β w' act' hn ha' hd)
theorem SL.step (h : SR P c a S .normal a1 S1) (h' : SL P n c a1 S1 e a' S') : SL P (n + 1) c a S e a' S' := fun α w act Q hr ha hQ => by
 rw [rounds_succ]
 exact h α w act _ hr ha (fun β w' act' hn ha' hd => h' β w' act' Q hn.rel ha' (fun γ w'' act'' hn' ha'' hd' => hQ γ w'' act'' (hn.trans hn') ha'' (hd'.trans hd)))
theorem SR.loop (h : SL P n c a S e a' S') : SR P (.loop c) a S e a' S' :=
 fun α w act Q hr ha hQ => wp_loop_rounds n (h α w act Q hr ha hQ)
def seqs : List Code → Code
 | [] => .skip
 | [c] => c
 | c :: r => .seq c (seqs r)
def appL : List Code → Code → Code
 | [], z => z
 | c :: r, z => .seq c (appL r z)
theorem Runs.seq_inv (h : Runs P okF call fg (.seq x y) a S .normal a' S') : ∃ a1 S1, Runs P okF call fg x a S .normal a1 S1 ∧ Runs P okF call fg y a1 S1 .normal a' S' := by
 obtain ⟨n, h⟩ := h
 cases n with
 | zero => simp [xcode] at h
 | succ n =>
  simp only [xcode] at h
  cases hx : xcode P okF call fg n x a S with
  | none => rw [hx] at h; cases h
  | some q =>
   obtain ⟨e0, a0, S0⟩ := q
   rw [hx] at h
   cases e0 with
   | normal => exact ⟨a0, S0, ⟨n, hx⟩, ⟨n, h⟩⟩
   | exit i => simp [XOut.then] at h
   | ret => simp [XOut.then] at h
theorem SR.parts (hm : P.follows .mixedOrders = true) (hF : OkF P okF) (hC : CallSound P call) {z : Code} : ∀ (l : List Code) (a : XAct) (S : St), l ≠ [] → goodCode (seqs l) = true →
 Runs P okF call fg (seqs l) a S .normal a1 S1 → SR P z a1 S1 e a' S' → SR P (Go.Xe.appL l z) a S e a' S'
 | [], a, S, h, _, _, _ => absurd rfl h
 | [c], a, S, _, hg, h, h' => SR.seq (SR.of hm hF hC hg h) h'
 | c :: d :: r, a, S, _, hg, h, h' => by
  simp only [seqs, goodCode, Bool.and_eq_true] at hg
  obtain ⟨a2, S2, h1, h2⟩ := h.seq_inv
  exact SR.seq (SR.of hm hF hC hg.1 h1) (SR.parts hm hF hC (d :: r) a2 S2 (by simp) hg.2 h2 h')
theorem SR.calls {f : FuncId} {fn : Func} (hf : P.funcs[f]? = some fn) (hb : fn.body = some c) {args : List Value} (h : SR P c (startX fn args) S e a' S') (he : e = .normal ∨ e = .ret) {v : Value} (hv : xres P fn a' S' = some v)
 {α : Place} {w : World} {args' : Array Value} (hr : Rel α S w) (ha : LRel α args args'.toList) :
 Calls P f args' w fun e w' => ∃ β v', e = .returned v' ∧ Next α S w β S' w' ∧ VRel β v v' := by
 apply calls_of_wp hf hb
 refine h α w _ _ hr (startX_rel ha) (fun β w' act' hn ha' hd => ?_)
 obtain ⟨v', h1, h2⟩ := xres_sound (P := P) hn.rel ha' hv
 rcases he with rfl | rfl
 ·exact ⟨hd, v', h1, β, v', rfl, hn, h2⟩
 ·exact ⟨hd, v', h1, β, v', rfl, hn, h2⟩
end
section
variable {π : Nat → Nat}
theorem RenV.map (i : Nat) : RenV π (.map (some i)) (.map (some (π i))) := fun γ v' => ⟨fun h => by cases h; exact .map _ _ ‹_›, fun h => by cases h; exact .map _ _ ‹_›⟩
theorem RenE.map {es : List MapEntry} {clock : Nat} {ro : Bool} (h : ∀ (i : Nat) e, es[i]? = some e → RenV π e.key e.key ∧ RenV π e.val e.val) : RenE π (.map es clock ro) (.map es clock ro) := by
 refine ⟨fun γ w l => ⟨?_, ?_⟩, rfl⟩
 ·rintro ⟨h0, es', h1, h2, h3⟩
  refine ⟨h0, es', h1, h2, fun i e e' he he' => ?_⟩
  obtain ⟨g1, g2, g3⟩ := h3 i e e' he he'
  exact ⟨((h i e he).1 γ _).1 g1, ((h i e he).2 γ _).1 g2, g3⟩
 ·rintro ⟨h0, es', h1, h2, h3⟩
  refine ⟨h0, es', h1, h2, fun i e e' he he' => ?_⟩
  obtain ⟨g1, g2, g3⟩ := h3 i e e' he he'
  exact ⟨((h i e he).1 γ _).2 g1, ((h i e he).2 γ _).2 g2, g3⟩
end
def low1 (m : Nat) : Value → Bool
 | .pointer (some ⟨i, _, none⟩) => decide (i < m)
 | .slice (some ⟨i, _, none⟩) _ _ => decide (i < m)
 | .map (some i) => decide (i < m)
 | v => plain1 v
def low (m : Nat) : Value → Bool
 | .agg a => a.toList.all (low1 m)
 | .tuple a => a.toList.all (low1 m)
 | v => low1 m v
def lowE (m : Nat) : Ent → Bool
 | .row cs _ _ => cs.all (low1 m)
 | .map es _ _ => es.all fun e => low m e.key && low m e.val
 | _ => false
def Keeps (m : Nat) (π : Nat → Nat) : Prop := ∀ j, j < m → π j = j
theorem low1_ren {m : Nat} {π : Nat → Nat} (hk : Keeps m π) {v : Value} (h : low1 m v = true) : RenV π v v := by
 unfold low1 at h
 split at h
 ·rename_i i o; simp only [decide_eq_true_eq] at h; have := RenV.ptr (π := π) i o; rw [hk i h] at this; exact this
 ·rename_i i o l c; simp only [decide_eq_true_eq] at h; have := RenV.slice (π := π) i o l c; rw [hk i h] at this; exact this
 ·rename_i i; simp only [decide_eq_true_eq] at h; have := RenV.map (π := π) i; rw [hk i h] at this; exact this
 ·exact .plain1 h
theorem low1s_ren {m : Nat} {π : Nat → Nat} (hk : Keeps m π) {l : List Value} (h : l.all (low1 m) = true) : RenL π l l :=
 ⟨rfl, fun i a b ha hb => by rw [ha] at hb; cases hb; exact low1_ren hk (List.all_eq_true.1 h a (List.mem_of_getElem? ha))⟩
theorem low_ren {m : Nat} {π : Nat → Nat} (hk : Keeps m π) {v : Value} (h : low m v = true) : RenV π v v := by
 unfold low at h
 split at h
 ·exact .agg (low1s_ren hk h)
 ·exact .tuple (low1s_ren hk h)
 ·exact low1_ren hk h
theorem lowE_ren {m : Nat} {π : Nat → Nat} (hk : Keeps m π) {e : Ent} (h : lowE m e = true) : RenE π e e := by
 unfold lowE at h
 split at h
 ·exact .row (low1s_ren hk h)
 ·rename_i es c ro
  refine .map (fun i e he => ?_)
  have := List.all_eq_true.1 h e (List.mem_of_getElem? he)
  simp only [Bool.and_eq_true] at this
  exact ⟨low_ren hk this.1, low_ren hk this.2⟩
 ·cases h
structure Kept (m : Nat) (T S : St) : Prop where
 heap : ∀ i e, T.heap.get i = some e → S.heap.get i = some e ∧ i < m ∧ ∀ π, Keeps m π → RenE π e e
 next : T.next = m
 le : m ≤ S.next
 glob : T.glob = S.glob
 gle : T.glob ≤ m
theorem Next.forget {α β : Place} {S S' T : St} {w w' : World} {m : Nat} (h : Next α S w β S' w') (k : Kept m T S') (hm : S.next ≤ m) (hr : Rel α S w) :
 ∃ β', Next α S w β' T w' ∧ ∀ v v', (∀ π, Keeps m π → RenV π v v) → VRel β v v' → VRel β' v v' := by
 let π : Nat → Nat := fun i => if i < m then i else S'.next
 have hk : Keeps m π := fun j hj => if_pos hj
 let β' : Place := fun i => β (π i)
 have hlt : ∀ i, i < m → β' i = β i := fun i hi => by show β (π i) = _; rw [hk i hi]
 have hge : ∀ i, ¬ i < m → β' i = none := fun i hi => by
  show β (if i < m then i else S'.next) = none
  rw [if_neg hi]
  cases hb : β S'.next with
  | none => rfl
  | some l => exact absurd (h.rel.fresh _ l hb) (Nat.lt_irrefl _)
 have some_lt : ∀ i l, β' i = some l → i < m ∧ β i = some l := fun i l hl => by
  by_cases hi : i < m
  ·exact ⟨hi, by rw [← hlt i hi]; exact hl⟩
  ·rw [hge i hi] at hl; cases hl
 refine ⟨β', ⟨fun i l hl => ?_, ⟨fun i e hi => ?_, fun i j e f l q hij hi hj hro hl hq => ?_, fun i l hl => ?_, fun i l hl => h.rel.size _ l (some_lt i l hl).2, fun i l hi hl => ?_, ?_⟩, h.frame, fun j f q hj hf hq => ?_, ?_, ?_, fun i hi => ?_, fun i e hi hlt' => ?_, fun i e hi hro => ?_⟩, fun v v' hv hvr => ((hv π hk) β v').2 hvr⟩
 ·rw [hlt i (Nat.lt_of_lt_of_le (hr.fresh i l hl) hm)]; exact h.ext i l hl
 ·obtain ⟨h1, h2, h3⟩ := k.heap i e hi
  obtain ⟨l, hl, he⟩ := h.rel.ent i e h1
  exact ⟨l, by rw [hlt i h2]; exact hl, ((h3 π hk).rel β w' l).2 he⟩
 ·obtain ⟨h1, h2, _⟩ := k.heap i e hi
  obtain ⟨g1, g2, _⟩ := k.heap j f hj
  exact h.rel.apart i j e f l q hij h1 g1 hro (some_lt i l hl).2 (some_lt j q hq).2
 ·rw [k.next]; exact (some_lt i l hl).1
 ·rw [k.glob] at hi; exact h.rel.glob i l hi (some_lt i l hl).2
 ·rw [k.next]; exact k.gle
 ·obtain ⟨h1, h2, _⟩ := k.heap j f hj
  exact h.kept j f q h1 hf (some_lt j q hq).2
 ·rw [k.next]; exact hm
 ·rw [k.glob]; exact h.glob
 ·rw [hlt i (Nat.lt_of_lt_of_le hi hm)]; exact h.old i hi
 ·exact h.ids i e (k.heap i e hi).1 hlt'
 ·exact h.ros i e (k.heap i e hi).1 hro
section
variable {P : Program} {c : Code} {a a' : XAct} {S S' T : St} {e : XE} {m : Nat}
theorem SR.forget (h : SR P c a S e a' S') (k : Kept m T S') (hm : S.next ≤ m) (ha : ∀ i v, slot a' i = some v → ∀ π, Keeps m π → RenV π v v) : SR P c a S e a' T :=
 fun α w act Q hr har hQ => h α w act Q hr har (fun β w' act' hn ha' hd => by
  obtain ⟨β', hn', hv⟩ := hn.forget k hm hr
  refine hQ β' w' act' hn' ⟨ha'.1, fun i v hi => ?_⟩ hd
  obtain ⟨v', h1, h2⟩ := ha'.2 i v hi
  exact ⟨v', h1, hv v v' (ha i v hi) h2⟩)
end
theorem SR.pre {P : Program} {c : Code} {a a' : XAct} {S S' T : St} {e : XE} (l : Less T S) (h : SR P c a T e a' S') : SR P c a S e a' S' := fun α w act Q hr ha hQ => by
 have n0 := (Next.refl hr).less l
 exact h α w act Q n0.rel ha (fun β w' act' hn ha' hd => hQ β w' act' (n0.trans hn) ha' hd)
theorem SR.preKept {P : Program} {c : Code} {a a' : XAct} {S S' T : St} {e : XE} {m : Nat} (k : Kept m T S) (hm : S.next ≤ m) (h : SR P c a T e a' S') : SR P c a S e a' S' :=
 h.pre ⟨fun i e hi => (k.heap i e hi).1, by rw [k.next]; exact hm, k.glob⟩
def lowA (m : Nat) (a : XAct) : Bool := a.all fun v => match v with | some v => low m v | none => true
theorem lowA_ren {m : Nat} {a : XAct} (h : lowA m a = true) : ∀ i v, slot a i = some v → ∀ π, Keeps m π → RenV π v v := by
 intro i v hv π hk
 unfold slot at hv
 split at hv
 ·rename_i o ho
  subst hv
  have := List.all_eq_true.1 h _ (List.mem_of_getElem? ho)
  exact low_ren hk this
 ·cases hv
structure Named (π : Nat → Nat) (S T S' : St) : Prop where
 old : ∀ j, j < S.next → π j = j
 heap : ∀ j e, T.heap.get j = some e → j < T.next ∧ ∃ x, S'.heap.get (π j) = some x ∧ RenE π e x ∧ (π j < S.next → π j = j ∧ e = x)
 inj : ∀ j k e f, T.heap.get j = some e → T.heap.get k = some f → π j = π k → j = k
 none : ∀ j, T.next ≤ j → S'.next ≤ π j
 next : S.next ≤ T.next
 glob : T.glob = S'.glob
 gle : T.glob ≤ T.next
 gkeep : ∀ j, j < T.glob → π j = j
theorem Next.named {α β : Place} {S S' T : St} {w w' : World} {π : Nat → Nat} (h : Next α S w β S' w') (k : Named π S T S') (hr : Rel α S w) : Next α S w (fun j => β (π j)) T w' := by
 have hlt : ∀ j l, β (π j) = some l → j < T.next := fun j l hl => by
  rcases Nat.lt_or_ge j T.next with h1 | h1
  ·exact h1
  ·have := h.rel.fresh _ l hl
   have := k.none j h1
   omega
 refine ⟨fun i l hl => ?_, ⟨fun i e hi => ?_, fun i j e f l q hij hi hj hro hl hq => ?_, fun i l hl => hlt i l hl, fun i l hl => h.rel.size _ l hl, fun i l hi hl => ?_, k.gle⟩, h.frame, fun j f q hj hf hq => ?_, k.next, ?_, fun i hi => ?_, fun i e hi hlt' => ?_, fun i e hi hro => ?_⟩
 ·show β (π i) = _
  rw [k.old i (hr.fresh i l hl)]
  exact h.ext i l hl
 ·obtain ⟨_, x, hx, hren, _⟩ := k.heap i e hi
  obtain ⟨l, hl, he⟩ := h.rel.ent _ x hx
  exact ⟨l, hl, (hren.rel β w' l).2 he⟩
 ·obtain ⟨_, x, hx, hrx, _⟩ := k.heap i e hi
  obtain ⟨_, y, hy, hry, _⟩ := k.heap j f hj
  exact h.rel.apart (π i) (π j) x y l q (fun hp => hij (k.inj i j e f hi hj hp)) hx hy (by rw [← hrx.ro, ← hry.ro]; exact hro) hl hq
 ·rw [k.gkeep i hi] at hl
  exact h.rel.glob i l (by rw [← k.glob]; exact hi) hl
 ·obtain ⟨_, x, hx, hrx, _⟩ := k.heap j f hj
  exact h.kept (π j) x q hx (by rw [← hrx.ro]; exact hf) hq
 ·rw [k.glob]; exact h.glob
 ·show β (π i) = _
  rw [k.old i hi]; exact h.old i hi
 ·obtain ⟨_, x, hx, _, _⟩ := k.heap i e hi
  rw [k.old i hlt'] at hx
  exact h.ids i x hx hlt'
 ·obtain ⟨_, x, hx, hrx, hsame⟩ := k.heap i e hi
  have hxr : x.ro = true := by rw [← hrx.ro]; exact hro
  have h1 := h.ros _ x hx hxr
  have h2 := hr.live_lt h1
  obtain ⟨h3, rfl⟩ := hsame h2
  rw [h3] at h1
  exact h1
section
variable {P : Program} {c : Code} {a a' b : XAct} {S S' T : St} {e : XE} {π : Nat → Nat}
theorem SR.named (h : SR P c a S e a' S') (k : Named π S T S') (hlen : b.length = a'.length) (ha : ∀ i v, slot b i = some v → ∃ u, slot a' i = some u ∧ RenV π v u) : SR P c a S e b T :=
 fun α w act Q hr har hQ => h α w act Q hr har (fun β w' act' hn ha' hd => by
  refine hQ _ w' act' (hn.named k hr) ⟨by rw [hlen]; exact ha'.1, fun i v hi => ?_⟩ hd
  obtain ⟨u, hu, hren⟩ := ha i v hi
  obtain ⟨v', h1, h2⟩ := ha'.2 i u hu
  exact ⟨v', h1, (hren β v').2 h2⟩)
end
def Moves (S : St) (a1 : XAct) (S1 : St) (b : XAct) (T : St) : Prop :=
 ∀ (α γ : Place) (w w' : World) (tmps : Array Value), Rel α S w → Next α S w γ S1 w' → ARel γ a1 tmps → ∃ γ', Next α S w γ' T w' ∧ ARel γ' b tmps
theorem Moves.refl (S : St) (a1 : XAct) (S1 : St) : Moves S a1 S1 a1 S1 := fun α γ w w' tmps _ hn ha => ⟨γ, hn, ha⟩
theorem Moves.kept {S S1 T : St} {a1 : XAct} {m : Nat} (k : Kept m T S1) (hm : S.next ≤ m) (ha : ∀ i v, slot a1 i = some v → ∀ π, Keeps m π → RenV π v v) : Moves S a1 S1 a1 T :=
 fun α γ w w' tmps hr hn har => by
  obtain ⟨β', hn', hv⟩ := hn.forget k hm hr
  refine ⟨β', hn', har.1, fun i v hi => ?_⟩
  obtain ⟨v', h1, h2⟩ := har.2 i v hi
  exact ⟨v', h1, hv v v' (ha i v hi) h2⟩
theorem Moves.named {S S1 T : St} {a1 b : XAct} {π : Nat → Nat} (k : Named π S T S1) (hlen : b.length = a1.length) (ha : ∀ i v, slot b i = some v → ∃ u, slot a1 i = some u ∧ RenV π v u) : Moves S a1 S1 b T :=
 fun α γ w w' tmps hr hn har => by
  refine ⟨_, hn.named k hr, by rw [hlen]; exact har.1, fun i v hi => ?_⟩
  obtain ⟨u, hu, hren⟩ := ha i v hi
  obtain ⟨v', h1, h2⟩ := har.2 i u hu
  exact ⟨v', h1, (hren γ v').2 h2⟩
section
variable {P : Program} {okF : FuncId → Bool} {call : XCall} {fg : Nat → Option Nat} {z : Code} {a1 : XAct} {S1 : St}
theorem parts_go (hm : P.follows .mixedOrders = true) (hF : OkF P okF) (hC : CallSound P call) : ∀ (l : List Code) (a2 : XAct) (S2 : St), l ≠ [] → goodCode (seqs l) = true → Runs P okF call fg (seqs l) a2 S2 .normal a1 S1 →
 ∀ (α β : Place) (S : St) (w w2 : World) (act2 : Act) (Q : Exit → Act → World → Prop), Next α S w β S2 w2 → ARel β a2 act2.tmps →
  (∀ (γ : Place) (w' : World) (act' : Act), Next α S w γ S1 w' → ARel γ a1 act'.tmps → act'.defers = act2.defers → z.wp P Q act' w') → (appL l z).wp P Q act2 w2
 | [], a2, S2, h, _, _ => absurd rfl h
 | [c], a2, S2, _, hg, h => fun α β S w w2 act2 Q n0 ha hz =>
  wp_seq (SR.of hm hF hC hg h β w2 act2 _ n0.rel ha (fun γ w' act' hn ha' hd => hz γ w' act' (n0.trans hn) ha' hd))
 | c :: d :: r, a2, S2, _, hg, h => fun α β S w w2 act2 Q n0 ha hz => by
  simp only [seqs, goodCode, Bool.and_eq_true] at hg
  obtain ⟨a3, S3, h1, h2⟩ := h.seq_inv
  exact wp_seq (SR.of hm hF hC hg.1 h1 β w2 act2 _ n0.rel ha (fun γ w' act' hn ha' hd =>
   parts_go hm hF hC (d :: r) a3 S3 (by simp) hg.2 h2 α γ S w w' act' Q (n0.trans hn) ha' (fun γ' w'' act'' hn' ha'' hd' => hz γ' w'' act'' hn' ha'' (hd'.trans hd))))
theorem SR.partsM {a a' b : XAct} {S S' T : St} {e : XE} (hm : P.follows .mixedOrders = true) (hF : OkF P okF) (hC : CallSound P call) {l : List Code} (hl : l ≠ []) (hg : goodCode (seqs l) = true)
 (h : Runs P okF call fg (seqs l) a S .normal a1 S1) (mv : Moves S a1 S1 b T) (h' : SR P z b T e a' S') : SR P (appL l z) a S e a' S' :=
 fun α w act Q hr ha hQ => parts_go hm hF hC l a S hl hg h α α S w w act Q (Next.refl hr) ha (fun γ w' act' hn ha' hd => by
  obtain ⟨γ', hn', ha''⟩ := mv α γ w w' _ hr hn ha'
  exact h' γ' w' act' Q hn'.rel ha'' (fun δ w'' act'' hn'' hb hd' => hQ δ w'' act'' (hn'.trans hn'') hb (hd'.trans hd)))
end
section
variable {P : Program} {okF : FuncId → Bool} {call : XCall} {fg : Nat → Option Nat}
def SB (P : Program) (B0 : St) (c : Code) (a : XAct) (S : St) (e : XE) (a' : XAct) (S' : St) : Prop :=
 ∀ (α : Place) (w : World), Rel α B0 w → ∀ (β : Place) (w1 : World) (act : Act) (Q : Exit → Act → World → Prop), Next α B0 w β S w1 → ARel β a act.tmps →
  (∀ (γ : Place) (w' : World) (act' : Act), Next α B0 w γ S' w' → ARel γ a' act'.tmps → act'.defers = act.defers → Q e.to act' w') → c.wp P Q act w1
def SLB (P : Program) (B0 : St) (n : Nat) (c : Code) (a : XAct) (S : St) (e : XE) (a' : XAct) (S' : St) : Prop :=
 ∀ (α : Place) (w : World), Rel α B0 w → ∀ (β : Place) (w1 : World) (act : Act) (Q : Exit → Act → World → Prop), Next α B0 w β S w1 → ARel β a act.tmps →
  (∀ (γ : Place) (w' : World) (act' : Act), Next α B0 w γ S' w' → ARel γ a' act'.tmps → act'.defers = act.defers → Q e.to act' w') → Code.rounds P c Q n act w1
variable {B0 : St} {c x y : Code} {a a1 a' b : XAct} {S S1 S' T : St} {e : XE} {id n : Nat}
theorem SB.of (h : SR P c a S e a' S') : SB P B0 c a S e a' S' := fun α w hr β w1 act Q hn ha hQ =>
 h β w1 act Q hn.rel ha (fun γ w' act' hn' ha' hd => hQ γ w' act' (hn.trans hn') ha' hd)
theorem SR.ofB (h : SB P S c a S e a' S') : SR P c a S e a' S' := fun α w act Q hr ha hQ =>
 h α w hr α w act Q (Next.refl hr) ha (fun γ w' act' hn ha' hd => hQ γ w' act' hn ha' hd)
theorem SB.seq (h : SB P B0 x a S .normal a1 S1) (h' : SB P B0 y a1 S1 e a' S') : SB P B0 (.seq x y) a S e a' S' := fun α w hr β w1 act Q hn ha hQ =>
 wp_seq (h α w hr β w1 act _ hn ha (fun γ w' act' hn' ha' hd => h' α w hr γ w' act' _ hn' ha' (fun δ w'' act'' hn'' ha'' hd' => hQ δ w'' act'' hn'' ha'' (hd'.trans hd))))
theorem SB.seq_ret (h : SB P B0 x a S .ret a1 S1) : SB P B0 (.seq x y) a S .ret a1 S1 := fun α w hr β w1 act Q hn ha hQ =>
 wp_seq (h α w hr β w1 act _ hn ha (fun γ w' act' hn' ha' hd => hQ γ w' act' hn' ha' hd))
theorem SB.block_exit (h : SB P B0 c a S (.exit id) a1 S1) : SB P B0 (.block id c) a S .normal a1 S1 := fun α w hr β w1 act Q hn ha hQ =>
 wp_block (h α w hr β w1 act _ hn ha (fun γ w' act' hn' ha' hd => by
  simp only [XE.to, Exit.inBlock, if_true]
  exact hQ γ w' act' hn' ha' hd))
theorem SB.block (h : SB P B0 c a S .normal a1 S1) : SB P B0 (.block id c) a S .normal a1 S1 := fun α w hr β w1 act Q hn ha hQ =>
 wp_block (h α w hr β w1 act _ hn ha (fun γ w' act' hn' ha' hd => hQ γ w' act' hn' ha' hd))
theorem SB.block_ret (h : SB P B0 c a S .ret a1 S1) : SB P B0 (.block id c) a S .ret a1 S1 := fun α w hr β w1 act Q hn ha hQ =>
 wp_block (h α w hr β w1 act _ hn ha (fun γ w' act' hn' ha' hd => hQ γ w' act' hn' ha' hd))
theorem SLB.exit (h : SB P B0 c a S (.exit id) a1 S1) : SLB P B0 (n + 1) c a S (.exit id) a1 S1 := fun α w hr β w1 act Q hn ha hQ => by
 rw [rounds_succ]
 exact h α w hr β w1 act _ hn ha (fun γ w' act' hn' ha' hd => hQ γ w' act' hn' ha' hd)
theorem SLB.ret (h : SB P B0 c a S .ret a1 S1) : SLB P B0 (n + 1) c a S .ret a1 S1 := fun α w hr β w1 act Q hn ha hQ => by
 rw [rounds_succ]
 exact h α w hr β w1 act _ hn ha (fun γ w' act' hn' ha' hd => hQ γ w' act' hn' ha' hd)
theorem SLB.step (h : SB P B0 c a S .normal a1 S1) (h' : SLB P B0 n c a1 S1 e a' S') : SLB P B0 (n + 1) c a S e a' S' := fun α w hr β w1 act Q hn ha hQ => by
 rw [rounds_succ]
 exact h α w hr β w1 act _ hn ha (fun γ w' act' hn' ha' hd => h' α w hr γ w' act' Q hn' ha' (fun δ w'' act'' hn'' ha'' hd' => hQ δ w'' act'' hn'' ha'' (hd'.trans hd)))
theorem SB.loop (h : SLB P B0 n c a S e a' S') : SB P B0 (.loop c) a S e a' S' := fun α w hr β w1 act Q hn ha hQ =>
 wp_loop_rounds n (h α w hr β w1 act Q hn ha hQ)
theorem SB.moves (h : SB P B0 c a S e a' S') (m : Moves B0 a' S' b T) : SB P B0 c a S e b T := fun α w hr β w1 act Q hn ha hQ =>
 h α w hr β w1 act Q hn ha (fun γ w' act' hn' ha' hd => by
  obtain ⟨γ', h1, h2⟩ := m α γ w w' _ hr hn' ha'
  exact hQ γ' w' act' h1 h2 hd)
theorem SB.pre (m : Moves B0 a S b T) (h : SB P B0 c b T e a' S') : SB P B0 c a S e a' S' := fun α w hr β w1 act Q hn ha hQ => by
 obtain ⟨γ', h1, h2⟩ := m α β w w1 _ hr hn ha
 exact h α w hr γ' w1 act Q h1 h2 hQ
theorem Moves.trans {a2 : XAct} {S2 : St} (h : Moves S a1 S1 a2 S2) (h' : Moves S a2 S2 b T) : Moves S a1 S1 b T := fun α γ w w' tmps hr hn ha => by
 obtain ⟨γ', h1, h2⟩ := h α γ w w' tmps hr hn ha
 exact h' α γ' w w' tmps hr h1 h2
theorem Moves.less (l : Less T S1) (hlen : List.length b = List.length a1) (ha : ∀ i v, slot b i = some v → slot a1 i = some v) : Moves S a1 S1 b T := fun α γ w w' tmps hr hn har =>
 ⟨γ, hn.less l, by rw [hlen]; exact har.1, fun i v hi => har.2 i v (ha i v hi)⟩
theorem ARel.less {α : Place} {t : Array Value} (h : ARel α a t) (hlen : List.length b = List.length a) (ha : ∀ i v, slot b i = some v → slot a i = some v) : ARel α b t :=
 ⟨by rw [hlen]; exact h.1, fun i v hi => h.2 i v (ha i v hi)⟩
end
section
variable {π : Nat → Nat} {C C' S S' : St} {α : Place} {w w' : World}
structure Emb2 (π : Nat → Nat) (C S : St) : Prop where
 inj : ∀ i j x y, C.heap.get i = some x → C.heap.get j = some y → π i = π j → i = j
 lt : ∀ i, i < C.next → π i < S.next
 new : ∀ i, C.next ≤ i → π i = S.next + (i - C.next)
 glob : C.glob = 0
theorem Rel.small2 (h : Rel α S w) (e : Emb2 π C S) (hc : ∀ i x, C.heap.get i = some x → i < C.next ∧ ∃ y, S.heap.get (π i) = some y ∧ RenE π x y) : Rel (fun i => α (π i)) C w := by
 refine ⟨fun i x hi => ?_, fun i j x y l m hij hi hj hro hl hm => ?_, fun i l hl => ?_, fun i l hl => h.size _ l hl, fun i l hi hl => ?_, by rw [e.glob]; exact Nat.zero_le _⟩
 ·obtain ⟨_, y, hy, hr⟩ := hc i x hi
  obtain ⟨l, hl, hent⟩ := h.ent _ y hy
  exact ⟨l, hl, (hr.rel α w l).2 hent⟩
 ·obtain ⟨hi1, x', hx', hrx⟩ := hc i x hi
  obtain ⟨hj1, y', hy', hry⟩ := hc j y hj
  refine h.apart (π i) (π j) x' y' l m (fun he => hij (e.inj i j x y hi hj he)) hx' hy' ?_ hl hm
  rw [← hrx.ro, ← hry.ro]; exact hro
 ·rcases Nat.lt_or_ge i C.next with hlt | hge
  ·exact hlt
  ·have := h.fresh _ l hl
   rw [e.new i hge] at this
   omega
 ·rw [e.glob] at hi; omega
structure Ups (π : Nat → Nat) (C C' S : St) (ups : List (Nat × Ent)) : Prop where
 old : ∀ i x, C.heap.get i = some x → (∃ y, (π i, y) ∈ ups) ∨ C'.heap.get i = some x
 new : ∀ k y, (k, y) ∈ ups → ∃ i x, k = π i ∧ C'.heap.get i = some x ∧ RenE π x y ∧ (y.ro = true → S.heap.get k = some y)
def putU (t : PT Ent) : List (Nat × Ent) → PT Ent
 | [] => t
 | p :: r => (putU t r).set p.1 (some p.2)
theorem get_putU : ∀ (l : List (Nat × Ent)) (t : PT Ent) (i : Nat) (e : Ent), (putU t l).get i = some e → (i, e) ∈ l ∨ (t.get i = some e ∧ ∀ y, (i, y) ∉ l)
 | [], t, i, e, h => .inr ⟨h, fun y hy => by cases hy⟩
 | p :: r, t, i, e, h => by
  simp only [putU, PT.get_set] at h
  split at h
  ·rename_i hi; subst hi; cases h; exact .inl (by simp)
  ·rename_i hi
   rcases get_putU r t i e h with h1 | ⟨h1, h2⟩
   ·exact .inl (by simp [h1])
   ·refine .inr ⟨h1, fun y hy => ?_⟩
    rcases List.mem_cons.1 hy with h3 | h3
    ·rw [← h3] at hi; exact hi rfl
    ·exact h2 y h3
theorem get_putU_of : ∀ (l : List (Nat × Ent)) (t : PT Ent) (i : Nat), (∀ y, (i, y) ∉ l) → (putU t l).get i = t.get i
 | [], t, i, h => rfl
 | p :: r, t, i, h => by
  simp only [putU, PT.get_set]
  rw [if_neg (fun hi => h p.2 (by rw [hi]; simp)), get_putU_of r t i (fun y hy => h y (by simp [hy]))]
def St.ups (S : St) (l : List (Nat × Ent)) (n : Nat) : St := { S with heap := putU S.heap l, next := n }
theorem Next.large2 (h : Rel α S w) (e : Emb2 π C S) (hc : ∀ i x, C.heap.get i = some x → i < C.next ∧ ∃ y, S.heap.get (π i) = some y ∧ RenE π x y) {βc : Place} (n : Next (fun i => α (π i)) C w βc C' w')
 (hn : S'.next = S.next + (C'.next - C.next)) (hg : S'.glob = S.glob)
 (hu : ∀ k y, S'.heap.get k = some y → (∃ i x, k = π i ∧ C'.heap.get i = some x ∧ RenE π x y ∧ (y.ro = true → S.heap.get k = some y)) ∨ (S.heap.get k = some y ∧ k < S.next ∧ ∀ i x, C.heap.get i = some x → k ≠ π i)) :
 ∃ β : Place, Next α S w β S' w' ∧ βc = fun i => β (π i) := by
 let β : Place := fun k => if k < S.next then α k else βc (C.next + (k - S.next))
 have hβlt : ∀ k, k < S.next → β k = α k := fun k hk => by simp only [β, if_pos hk]
 have hβ : βc = fun i => β (π i) := by
  funext i
  rcases Nat.lt_or_ge i C.next with hlt | hge
  ·rw [n.old i hlt, hβlt _ (e.lt i hlt)]
  ·simp only [β]
   rw [e.new i hge, if_neg (by omega)]
   congr 1
   omega
 have hext : α.Ext β := fun k l hk => by rw [hβlt k (h.fresh k l hk)]; exact hk
 have hnx := n.next
 have stay : ∀ k y l, S.heap.get k = some y → (∀ i x, C.heap.get i = some x → k ≠ π i) → α k = some l → w'.heap[l.blk]? = w.heap[l.blk]? := by
  intro k y l hk hno hl
  refine n.frame.block _ (h.size k l hl) (fun i x m hi hro hm => ?_)
  obtain ⟨hi1, x', hx', hr⟩ := hc i x hi
  exact h.apart (π i) k x' y m l (fun he => hno i x hi he.symm) hx' hk (.inl (by rw [← hr.ro]; exact hro)) hm hl
 have far : ∀ i x x' m k y l, C'.heap.get i = some x → RenE π x x' → (x'.ro = true → S.heap.get (π i) = some x') → S.heap.get k = some y → (∀ j z, C.heap.get j = some z → k ≠ π j) → (x'.ro = false ∨ y.ro = false) → β (π i) = some m → α k = some l → m.blk ≠ l.blk := by
  intro i x x' m k y l hi hr hold hk hno hro hm hl
  have hlt := h.size k l hl
  have hmc : βc i = some m := by rw [hβ]; exact hm
  cases hx : x.ro with
  | false =>
   rcases n.kept i x m hi hx hmc with h1 | ⟨j, z, q, hj, hzr, hq, hqm⟩
   ·omega
   ·obtain ⟨hj1, z', hz', hrz⟩ := hc j z hj
    have := h.apart (π j) k z' y q l (fun he => hno j z hj he.symm) hz' hk (.inl (by rw [← hrz.ro]; exact hzr)) hq hl
    omega
  | true =>
   have hxr : x'.ro = true := by rw [← hr.ro]; exact hx
   have hyr : y.ro = false := by rcases hro with hro | hro; (rw [hxr] at hro; cases hro); exact hro
   have hCi := n.ros i x hi hx
   obtain ⟨hi1, _⟩ := hc i x hCi
   have hm' : α (π i) = some m := by rw [← hβlt _ (e.lt i hi1)]; exact hm
   exact h.apart (π i) k x' y m l (fun he => hno i x hCi he.symm) (hold hxr) hk (.inr hyr) hm' hl
 refine ⟨β, ⟨hext, ⟨?_, ?_, ?_, ?_, ?_, ?_⟩, ⟨n.frame.size, ?_, n.frame.os, n.frame.tape, n.frame.output⟩, ?_, by omega, hg, fun i hi => hβlt i hi, ?_, ?_⟩, hβ⟩
 ·intro k y hk
  rcases hu k y hk with ⟨i, x, rfl, hi, hr, _⟩ | ⟨h1, h2, h3⟩
  ·obtain ⟨l, hl, hent⟩ := n.rel.ent i x hi
   rw [hβ] at hl hent
   exact ⟨l, hl, (hr.rel β w' l).1 hent⟩
  ·obtain ⟨l, hl, hent⟩ := h.ent k y h1
   exact ⟨l, hext _ _ hl, (hent.mono hext).of_block (stay k y l h1 h3 hl)⟩
 ·intro k k' y y' l m hkk hk hk' hro hl hm
  rcases hu k y hk with ⟨i, x, rfl, hi, hr, hold⟩ | ⟨h1, h2, h3⟩
  ·rcases hu k' y' hk' with ⟨j, z, rfl, hj, hrz, hold'⟩ | ⟨g1, g2, g3⟩
   ·refine n.rel.apart i j x z l m (fun he => hkk (by rw [he])) hi hj (by rw [hr.ro, hrz.ro]; exact hro) (by rw [hβ]; exact hl) (by rw [hβ]; exact hm)
   ·rw [hβlt _ g2] at hm
    exact far i x y l k' y' m hi hr hold g1 g3 hro hl hm
  ·rw [hβlt _ h2] at hl
   rcases hu k' y' hk' with ⟨j, z, rfl, hj, hrz, hold'⟩ | ⟨g1, g2, g3⟩
   ·exact Ne.symm (far j z y' m k y l hj hrz hold' h1 h3 hro.symm hm hl)
   ·rw [hβlt _ g2] at hm
    exact h.apart k k' y y' l m hkk h1 g1 hro hl hm
 ·intro k l hl
  rw [hn]
  rcases Nat.lt_or_ge k S.next with hlt | hge
  ·omega
  ·simp only [β, if_neg (Nat.not_lt.2 hge)] at hl
   have := n.rel.fresh _ l hl
   omega
 ·intro k l hl
  rcases Nat.lt_or_ge k S.next with hlt | hge
  ·rw [hβlt _ hlt] at hl
   exact Nat.lt_of_lt_of_le (h.size k l hl) n.frame.size
  ·simp only [β, if_neg (Nat.not_lt.2 hge)] at hl
   exact n.rel.size _ l hl
 ·intro k l hk hl
  rw [hg] at hk
  rw [hβlt _ (Nat.lt_of_lt_of_le hk h.gle)] at hl
  exact h.glob k l hk hl
 ·rw [hg, hn]; have := h.gle; omega
 ·intro b hb hne
  refine n.frame.block b hb (fun i x l hi hro hl => ?_)
  obtain ⟨hi1, y, hy, hr⟩ := hc i x hi
  exact hne (π i) y l hy (by rw [← hr.ro]; exact hro) hl
 ·intro k y m hk hro hm
  rcases hu k y hk with ⟨i, x, rfl, hi, hr, _⟩ | ⟨h1, h2, h3⟩
  ·rcases n.kept i x m hi (by rw [hr.ro]; exact hro) (by rw [hβ]; exact hm) with h1 | ⟨j, z, q, hj, hzr, hq, hqm⟩
   ·exact .inl h1
   ·obtain ⟨hj1, z', hz', hrz⟩ := hc j z hj
    exact .inr ⟨π j, z', q, hz', by rw [← hrz.ro]; exact hzr, hq, hqm⟩
  ·rw [hβlt _ h2] at hm
   exact .inr ⟨k, y, m, h1, hro, hm, rfl⟩
 ·intro k y hk hlt
  rcases hu k y hk with ⟨i, x, rfl, hi, hr, _⟩ | ⟨h1, h2, h3⟩
  ·have hilt : i < C.next := by
    rcases Nat.lt_or_ge i C.next with h1 | h1
    ·exact h1
    ·rw [e.new i h1] at hlt; omega
   obtain ⟨z, hz⟩ := n.ids i x hi hilt
   obtain ⟨_, z', hz', _⟩ := hc i z hz
   exact ⟨z', hz'⟩
  ·exact ⟨y, h1⟩
 ·intro k y hk hro
  rcases hu k y hk with ⟨i, x, rfl, hi, hr, hold⟩ | ⟨h1, h2, h3⟩
  ·exact hold hro
  ·exact h1
theorem Next.ups (h : Rel α S w) (e : Emb2 π C S) (hc : ∀ i x, C.heap.get i = some x → i < C.next ∧ ∃ y, S.heap.get (π i) = some y ∧ RenE π x y) {βc : Place} (n : Next (fun i => α (π i)) C w βc C' w') {l : List (Nat × Ent)} (u : Ups π C C' S l) :
 ∃ β : Place, Next α S w β (S.ups l (S.next + (C'.next - C.next))) w' ∧ βc = fun i => β (π i) := by
 refine Next.large2 h e hc n rfl rfl fun k y hk => ?_
 rcases get_putU l _ k y hk with h1 | ⟨h1, h2⟩
 ·obtain ⟨i, x, rfl, hx, hr, hro⟩ := u.new k y h1
  exact .inl ⟨i, x, rfl, hx, hr, hro⟩
 ·by_cases hex : ∃ i x, C.heap.get i = some x ∧ k = π i
  ·obtain ⟨i, x, hi, rfl⟩ := hex
   rcases u.old i x hi with ⟨z, hz⟩ | hz
   ·exact absurd hz (h2 z)
   ·obtain ⟨_, z, hz1, hz2⟩ := hc i x hi
    rw [h1] at hz1; cases hz1
    exact .inl ⟨i, x, rfl, hz, hz2, fun _ => h1⟩
  ·exact .inr ⟨h1, h.live_lt h1, fun i x hi hk => hex ⟨i, x, hi, hk⟩⟩
end
section
variable {P : Program} {π : Nat → Nat} {B0 C C' S S' : St} {c : Code} {a a' aL aL' : XAct} {e : XE} {l : List (Nat × Ent)}
theorem SR.lift (h : SR P c a C e a' C') (em : Emb2 π C S) (hc : ∀ i x, C.heap.get i = some x → i < C.next ∧ ∃ y, S.heap.get (π i) = some y ∧ RenE π x y) (u : Ups π C C' S l)
 (hlen : List.length aL = List.length a) (ha : ∀ i v, slot a i = some v → ∃ v', slot aL i = some v' ∧ RenV π v v')
 (hlen' : List.length aL' = List.length a') (ha' : ∀ i v', slot aL' i = some v' → ∃ v, slot a' i = some v ∧ RenV π v v') :
 SR P c aL S e aL' (S.ups l (S.next + (C'.next - C.next))) := fun α w act Q hr har hQ => by
 refine h (fun i => α (π i)) w act Q (hr.small2 em hc) ⟨by rw [← hlen]; exact har.1, fun i v hi => ?_⟩ (fun βc w' act' hn har' hd => ?_)
 ·obtain ⟨v', h1, h2⟩ := ha i v hi
  obtain ⟨u', h3, h4⟩ := har.2 i v' h1
  exact ⟨u', h3, (h2 α u').2 h4⟩
 ·obtain ⟨β, hn', rfl⟩ := Next.ups hr em hc hn u
  refine hQ β w' act' hn' ⟨by rw [hlen']; exact har'.1, fun i v' hi => ?_⟩ hd
  obtain ⟨v, h1, h2⟩ := ha' i v' hi
  obtain ⟨u', h3, h4⟩ := har'.2 i v h1
  exact ⟨u', h3, (h2 β u').1 h4⟩
end
def keepT : List (Nat × List Nat) := [
 (3, [3, 99, 482, 8589934754, 16, 674, 35184372089506, 674, 288230376151712418, 16, 1152921504606847136, 16, 160, 160, 3200, 16]),
 (4, [1, 513, 12, 12]),
 (5, [1, 257, 4, 4]),
 (6, [1, 513, 12, 12]),
 (7, [35, 163, 262307, 786595, 418, 64, 2199023517859, 1570, 7680, 64, 2361183241434822869155, 64, 302231454903657293938851, 64, 618970019642690137449824419, 160, 64, 20282409603651670423947251548323, 128, 64, 2596148429267413814265248164610211, 64, 1, 64]),
 (8, [0, 6, 30, 68719476746, 1, 42, 106, 234, 994, 2018, 4066, 16352, 4611686018427404256, 1, 65504, 196576, 1]),
 (9, [1, 33, 4, 1, 0, 4]),
 (10, [0]),
 (11, [7, 263, 4359, 192, 549755813895, 192, 192]),
 (12, [7, 135, 2183, 64, 34359738375, 64, 1099511627783, 0, 64, 7, 7, 0, 64]),
 (13, [7, 135, 64, 8199, 64, 1048583, 0, 64, 68719476743, 7, 0, 64]),
 (14, [7, 2055, 192, 131079, 192, 263, 30064771334, 64424509702, 30064772358, 30064771334, 30064771334, 192]),
 (15, [1, 9, 137, 4, 1, 0, 4]),
 (16, [1, 513, 4, 57345, 122881, 57361, 57345, 57345, 0, 4]),
 (17, [3, 35, 547, 16, 4099, 16, 0, 16]),
 (18, [3, 35, 16, 2051, 16, 0, 16]),
 (19, [71, 98375, 229447, 98503, 268533959, 98375, 98375, 120259084359, 257698037831, 120259085127, 2251920072770375, 120259086151, 73786976415097292359, 120259085895, 120259084359, 120259084359, 0]),
 (20, [7, 16391, 64, 135, 1835143, 3932295, 1835911, 17181704839, 1835143, 1835143, 7696581394565, 16492674416773, 7696581397637, 36036493600360581, 7696581396613, 7696581394565, 7696581394565, 1, 0, 64]),
 (21, [3, 7170, 15362, 7234, 536878082, 16, 7170, 16]),
 (22, [7, 519, 64, 8199, 64, 7, 7, 1729382256910270471, 4035225266123964423, 1729382256910270599, 1729382256910270727, 309485011550727325635051783, 1729382256910270727, 1729382256910270471, 1729382256910270471, 64]),
 (23, [7, 33554439, 64, 0, 64]),
 (24, [1, 65, 4, 9, 8, 4]),
 (25, [1, 17, 1048593, 12, 33, 224, 8796093022432, 12, 864, 864, 73786976294838206560, 96, 96, 1120, 3168, 604462909807314587356256, 31840, 309485009821345068724796512, 3168, 15456, 162259276829213363391578010303584, 7264, 3168, 1056, 1056, 32, 32, 20461022922632640854851587658027962275183055601696, 43845049119927087546110544981488490589677976289312, 20461022922632640854851587658027962275183055667232, 20461022922632640854851587658027962275183055601696, 20461022922632640854851587658027962275183055601696, 32, 12]),
 (26, [7, 135, 2183, 64, 8199, 64, 2097159, 64, 64]),
 (27, [1, 9, 137, 4, 4]),
 (28, [3, 67, 524355, 48, 387, 2147483779, 48, 1667, 140737488356995, 48, 2691, 6787, 43651, 75557863725914323421827, 0, 48, 48]),
 (29, [0, 2, 130, 386, 134, 142, 178, 8589934738, 1, 130, 130, 1]),
 (30, [1, 2049, 4, 4]),
 (31, [1, 4]),
 (32, [1, 9, 4, 128, 4, 4]),
 (33, [1, 17, 4, 4]),
 (34, [7, 64]),
 (35, [1, 17, 4, 4]),
 (36, [3, 35, 4194336, 16, 16]),
 (37, [19, 146, 34359738514, 112, 914, 576460752303424402, 112, 1938, 75557863725914323421074, 112, 2192, 112]),
 (38, [19, 0]),
 (39, [12, 16]),
 (40, [3, 35, 99, 2115, 4096, 16, 16, 8195, 16, 65539, 16, 524288, 16, 16]),
 (41, [3, 35, 4131, 16, 99, 524387, 99, 227, 536871139, 99, 99, 33, 16]),
 (42, [6, 8]),
 (43, [131, 643, 179, 65683, 131]),
 (44, [8, 16]),
 (45, [1, 9, 4, 129, 4, 4]),
 (46, [15, 527, 1551, 4294968847, 1551, 3599, 1099511631375, 256, 5647, 2251799813690895, 5647, 9743, 302231454903657293686287, 256, 38685626227668133590599183, 1551, 17927, 17927, 17927, 16391, 16391, 10889035741470030830827987437816582782981, 0, 256]),
 (47, [3, 67, 2, 16]),
 (48, [9, 137, 1048713, 48, 2147483657, 48, 265, 265, 3848290697480, 8246337208584, 3848290698504, 3848290698504, 3848290697480, 3848290697480, 264, 264, 264, 4231240368651202111471872, 9066943647109718810296576, 4231240368651202111475968, 4231240368651202111471872, 4231240368651202111471872, 8448, 8448, 48]),
 (49, [1, 4]),
 (50, [1, 8, 8, 4]),
 (51, [2, 4]),
 (52, [1, 9, 456, 968, 504, 456, 456, 4]),
 (53, [3, 1027, 16, 12291, 28675, 12323, 16789507, 16, 12291, 16]),
 (54, [3, 33, 16]),
 (55, [3, 34, 28704, 61472, 28832, 28704, 28704, 28704, 16]),
 (56, [1055, 3103, 7199, 33561631, 0, 4294974495, 0, 549755821087, 7199, 7199, 31775, 72057594037959711, 15391, 15391, 31775, 37778931862957161724959, 1208925819614629174721567, 158456325028528675187087916063, 35869, 3103, 200735, 71711, 858143, 1902623, 42535295865117307932921825928972929055, 68639, 68637, 3103, 68639, 68635, 3103]),
 (57, [1, 4, 4]),
 (58, [1, 4]),
 (59, [3, 387, 899, 419, 65955, 16, 387, 16]),
 (60, [7, 135, 3670151, 7864455, 3670919, 274881577351, 3670151, 3670151, 8796093022337, 64, 1153, 18014398509483137, 1153, 3201, 5249, 38685626227668133590602881, 64, 9345, 39614081257132168796771984513, 64, 129, 145384312038975173598853897218162817, 311537811512089657711829779753205889, 145384312038975173598853897218195585, 1361274851995792829027097283624291041409, 145384312038975173598853897218162817, 145384312038975173598853897218162817, 0, 64]),
 (61, [63, 8255, 41015, 8247, 8245, 8241, 8241, 8241, 8193, 4096]),
 (62, [1, 17, 8209, 12, 33, 458784, 983072, 458912, 458784, 458784, 32, 68719476768, 343597383712, 68719477536, 68719477536, 68719476768, 32, 12]),
 (63, [0, 1]),
 (64, [449, 961, 481, 449, 449]),
 (65, [3, 0]),
 (66, [9, 9, 131081, 9, 9, 9, 9, 9, 962072674305, 2061584302081, 962072674337, 962072674305, 962072674305]),
 (67, [13, 525, 13, 13]),
 (68, [1, 9, 41, 105, 57, 41, 41, 41, 4]),
 (69, [1, 4]),
 (70, [5, 0]),
 (71, [33, 161, 41, 8225]),
 (72, [7, 387, 899, 387, 387, 387, 64]),
 (73, [271, 16655, 271, 783, 17179869967, 783, 783]),
 (74, [271, 783, 1801, 3849, 2101001, 3849, 3849, 4873, 8589939465, 4873, 4873, 4873]),
 (75, [259, 131331, 771, 1795, 3843, 34359742211, 3843, 7939, 35184372096771, 7939, 3843]),
 (76, [15, 1035, 3083, 7179, 15371, 31753, 17179900937, 68719507465, 30729, 30729, 30729, 10240, 36028797018972160, 768, 180143985094828032, 768, 1152921504606855168, 768]),
 (77, [261, 769, 33537, 769, 769, 769]),
 (78, [15, 527, 1551, 67087, 1551, 68719478287, 1551, 2199023257103, 256, 35184372090383, 256, 1551, 36893488147419104783, 3599, 590295810358705655311, 3599, 19342813113834066795302415, 3599, 20282409603651670423947251287567, 5647, 649037107316853453566312041158159, 5647, 21267647932558653966460912964485518863, 5647, 256]),
 (79, [31, 23, 6163, 140737488361491, 6163, 36893488147419109395, 6163, 1180591620717411309587, 6163, 6163, 6163, 1024]),
 (80, [31, 23, 12307, 140737488367635, 12307, 73786976294838218771, 12307, 2361183241434822619155, 8192, 3072, 12307, 12307, 12307, 1329227995784915872903807060280356883, 12307, 696898287454081973172991196020261297074195, 12307, 22300745198530623141535718272648361505992723, 12307, 12307, 12307, 8192, 3072]),
 (81, [5, 21, 1, 5, 261, 5, 5, 4]),
 (82, [5, 21, 1, 5, 261, 5, 5, 16389, 5, 5, 4]),
 (83, [1, 17, 4, 4]),
 (84, [1, 129, 4, 1793, 3841, 1817, 34577, 4, 34359740161, 4, 1793, 4]),
 (85, [0, 1]),
 (86, [7, 2055, 64, 391, 2097543, 64, 33554823, 64, 536871303, 64, 1099511628039, 64, 263, 257, 147573952589676412929, 0, 64]),
 (87, [6, 4, 16]),
 (88, [271, 783, 1807, 8390415, 0, 536872719, 0, 34359740175, 1807, 1807, 7951, 1125899906850575, 3855, 3855, 7951, 295147905179352829711, 4722366482869645217551, 154742504910672534362394383, 8973, 783, 50191, 17935, 214543, 475663, 10384593717069655257060992658915855, 17167, 17165, 783, 17167, 17163, 783]),
 (89, [1053, 3101, 265245, 1099511630877, 3101, 288230376151714845, 2077, 1053]),
 (90, [1, 4]),
 (91, [1, 1, 1, 1, 4]),
 (92, [15, 256]),
 (93, [63, 63, 55, 4, 4096]),
 (94, [1, 4]),
 (95, [1, 4]),
 (96, [71, 4167, 71, 199, 1073742023, 199, 199]),
 (97, [71, 199, 449, 961, 525249, 961, 961, 1217, 1073743041, 1217, 1217, 1217]),
 (98, [67, 32835, 195, 451, 963, 8589935555, 963, 1987, 8796093024195, 1987, 963]),
 (99, [7, 259, 771, 1795, 3843, 7937, 4294975233, 17179876865, 7681, 7681, 7681, 2560, 562949953423360, 192, 2814749767108608, 192, 18014398509484032, 192]),
 (100, [69, 193, 8385, 193, 193, 193]),
 (101, [7, 135, 391, 16775, 391, 4294967687, 391, 137438953863, 64, 2199023255943, 64, 391, 2305843009213694343, 903, 36893488147419104135, 903, 302231454903657293677447, 903, 316912650057057350374175801735, 1415, 10141204801825835211973625644423, 1415, 83076749736557242056487941267522951, 1415, 64]),
 (102, [3, 16]),
 (103, [15, 7, 1539, 8796093023747, 1539, 576460752303425027, 1539, 18446744073709553155, 1539, 1539, 1539, 256]),
 (104, [15, 7, 3075, 8796093025283, 3075, 1152921504606850051, 3075, 36893488147419106307, 2048, 768, 3075, 3075, 3075, 5192296858534827628530496329223171, 3075, 680564733841876926926749214863536425987, 3075, 21778071482940061661655974875633165536259, 3075, 3075, 3075, 2048, 768]),
 (105, [31, 4194318, 6, 3072, 3072]),
 (106, [3, 65537, 16, 786433, 1835009, 786465, 786497, 2199024041985, 16, 786433, 16]),
 (107, [1, 4]),
 (108, [3, 16]),
 (109, [269, 781, 66317, 68719477517, 781, 4503599627371277, 525, 269]),
 (110, [7, 64]),
 (111, [31, 31, 23, 4, 1024]),
 (112, [1, 4]),
 (113, [1, 4]),
 (114, [3, 387, 899, 419, 65955, 16, 387, 16]),
 (115, [15, 262158, 6, 768, 768])
]
def keepL : List (Nat × List Nat) → Nat → List Nat
 | [], _ => []
 | (g, l) :: r, f => if g == f then l else keepL r f
def keepN : List Nat → Nat → Option Nat
 | [], _ => none
 | m :: _, 0 => some m
 | _ :: r, i + 1 => keepN r i
def kp : Keep := fun f id => keepN (keepL keepT f) id
open Go Go.Proofs
def okN (f : FuncId) : Bool := decide (3 ≤ f) && decide (f < 116)
def okOne (P : Program) (f : Nat) : Bool :=
 match P.funcs[f]? with
 | some fn => !(fn.name == "runtime.NumGoroutine") && (match fn.body with
  | some c => goodCode c
  | none => false)
 | none => false
def okAll (P : Program) : Nat → Bool
 | 0 => true
 | n + 1 => okOne P (n + 3) && okAll P n
theorem okAll_at {P : Program} : ∀ n, okAll P n = true → ∀ f, 3 ≤ f → f < n + 3 → okOne P f = true
 | 0, _, f, h1, h2 => by omega
 | n + 1, h, f, h1, h2 => by
  simp only [okAll, Bool.and_eq_true] at h
  by_cases hf : f = n + 3
  ·rw [hf]; exact h.1
  ·exact okAll_at n h.2 f h1 (by omega)
theorem allOk : okAll Tryz.prog 113 = true := by kernel_rfl
theorem okN_one {f : FuncId} (h : okN f = true) : okOne Tryz.prog f = true := by
 simp only [okN, Bool.and_eq_true, decide_eq_true_eq] at h
 exact okAll_at 113 allOk f h.1 h.2
theorem okN_ok : OkF Tryz.prog okN := by
 intro f h
 have := okN_one h
 unfold okOne at this
 split at this
 ·rename_i fn hf
  simp only [Bool.and_eq_true, Bool.not_eq_true'] at this
  refine ⟨fn, hf, ?_, this.1⟩
  have h2 := this.2
  split at h2
  ·rename_i c hc; simp [hc]
  ·cases h2
 ·cases this
theorem okN_good : GoodF Tryz.prog okN := by
 intro f fn c h hf hb
 have := okN_one h
 unfold okOne at this
 rw [hf] at this
 simp only [hb, Bool.and_eq_true] at this
 exact this.2
theorem mixed : Tryz.prog.follows .mixedOrders = true := Tryz.checked.mixed
def sub : Code → List Nat → Code
 | c, [] => c
 | .seq a _, 0 :: r => sub a r
 | .seq _ b, _ :: r => sub b r
 | .cond _ a _, 0 :: r => sub a r
 | .cond _ _ b, _ :: r => sub b r
 | .block _ c, _ :: r => sub c r
 | .loop c, _ :: r => sub c r
 | c, _ => c
def codeOf (P : Program) (f : Nat) : Code := match P.funcs[f]? with | some fn => (match fn.body with | some c => c | none => .skip) | none => .skip
def noOrc : Orc := fun _ => none
noncomputable def yc0 : YCall := ygo Tryz.prog okN noOrc kp 100
theorem sumPre0 (at' : Int) (o len cap : Nat) (cs : List Value) (ro : Bool) : ycode Tryz.prog okN yc0 (kp 55) 100 (sub (codeOf Tryz.prog 55) [0]) (startX Tryz.f55 [.int .i64 at', .slice (some ⟨0, o, none⟩) len cap]) { heap := PT.leaf.set 0 (some (.row cs 1 ro)), next := 1, glob := 0 } [] = some (true, ((XE.normal, ([some (.int .i64 at'), some (.slice (some ⟨0, o, none⟩) len cap)] ++ nn 27), (stO PT.leaf [(0, some (.row cs 1 ro))] 1 0)), [])) := by kernel_rfl
theorem sumPre1 (at' : Int) (o len cap : Nat) (cs : List Value) (ro : Bool) : ycode Tryz.prog okN yc0 (kp 55) 100 (sub (codeOf Tryz.prog 55) [1,0]) ([some (.int .i64 at'), some (.slice (some ⟨0, o, none⟩) len cap)] ++ nn 27) { heap := PT.leaf.set 0 (some (.row cs 1 ro)), next := 1, glob := 0 } [] = some (true, ((XE.normal, ([none, some (.slice (some ⟨0, o, none⟩) len cap), none, none, none, some (.int .u64 (IntKind.wrap IntKind.u64 ↑(BitVec.toNat (BitVec.ofInt 64 14695981039346656037 ^^^ BitVec.ofInt 64 (IntKind.wrap IntKind.u64 (IntKind.wrap IntKind.u64 at' * 11400714819323198485))))))] ++ nn 23), (stO PT.leaf [(0, some (.row cs 1 ro))] 1 0)), [])) := by kernel_rfl
theorem sumPre2 (h : Int) (o len cap : Nat) (cs : List Value) (ro : Bool) : ycode Tryz.prog okN yc0 (kp 55) 100 (sub (codeOf Tryz.prog 55) [1,1,0,0]) ([none, some (.slice (some ⟨0, o, none⟩) len cap), none, none, none, some (.int .u64 h)] ++ nn 23) { heap := PT.leaf.set 0 (some (.row cs 1 ro)), next := 1, glob := 0 } [] = some (true, ((XE.normal, ([none, none, none, none, none, some (.int .u64 h)] ++ nn 6 ++ [some (.slice (some ⟨0, o, none⟩) len cap), some (.int .i64 ↑len), some (.int .i64 0)] ++ nn 14), (stO PT.leaf [(0, some (.row cs 1 ro))] 1 0)), [])) := by kernel_rfl
theorem sumRound (h ix : Int) (o len cap : Nat) (cs : List Value) (ro : Bool) : ycode Tryz.prog okN yc0 (kp 55) 100 (sub (codeOf Tryz.prog 55) [1,1,0,1,0,0]) ([none, none, none, none, none, some (.int .u64 h)] ++ nn 6 ++ [some (.slice (some ⟨0, o, none⟩) len cap), some (.int .i64 len), some (.int .i64 ix)] ++ nn 14) { heap := PT.leaf.set 0 (some (.row cs 1 ro)), next := 1, glob := 0 } [true] = some (decide (ix < ↑len) && true && (decide (0 ≤ ix) && (decide (ix < ↑len) && true) && true && true && (decide (o + Int.toNat ix * 1 < List.length cs) && true && (isInt IntKind.u8 (List.getD cs (o + Int.toNat ix * 1) undefX) && true) && true && true && true) && true && true && true && true), ((XE.normal, ([none, none, none, none, none, some (.int .u64 (IntKind.wrap IntKind.u64 ↑(BitVec.toNat (BitVec.ofInt 64 (IntKind.wrap IntKind.u64 (IntKind.wrap IntKind.u64 ↑(BitVec.toNat (BitVec.ofInt 64 h ^^^ BitVec.ofInt 64 (IntKind.wrap IntKind.u64 (intOf (List.getD cs (o + Int.toNat ix * 1) undefX))))) * 1099511628211)) ^^^ BitVec.ofInt 64 (Int.fdiv (IntKind.wrap IntKind.u64 (IntKind.wrap IntKind.u64 ↑(BitVec.toNat (BitVec.ofInt 64 h ^^^ BitVec.ofInt 64 (IntKind.wrap IntKind.u64 (intOf (List.getD cs (o + Int.toNat ix * 1) undefX))))) * 1099511628211)) 2147483648)))))] ++ nn 6 ++ [some (.slice (some ⟨0, o, none⟩) len cap), some (.int .i64 ↑len), some (.int .i64 (IntKind.wrap IntKind.i64 (ix + 1)))] ++ nn 14), (stO PT.leaf [(0, some (.row cs 1 ro))] 1 0)), [])) := by kernel_rfl
theorem sumLast (h ix : Int) (o len cap : Nat) (cs : List Value) (ro : Bool) : ycode Tryz.prog okN yc0 (kp 55) 100 (sub (codeOf Tryz.prog 55) [1,1,0,1,0,0]) ([none, none, none, none, none, some (.int .u64 h)] ++ nn 6 ++ [some (.slice (some ⟨0, o, none⟩) len cap), some (.int .i64 len), some (.int .i64 ix)] ++ nn 14) { heap := PT.leaf.set 0 (some (.row cs 1 ro)), next := 1, glob := 0 } [false] = some (!decide (ix < ↑len) && true && true, ((XE.exit 0, ([none, none, none, none, none, some (.int .u64 h)] ++ nn 6 ++ [some (.slice (some ⟨0, o, none⟩) len cap), some (.int .i64 ↑len), some (.int .i64 ix), some (.bool (decide (ix < ↑len)))] ++ nn 13), (stO PT.leaf [(0, some (.row cs 1 ro))] 1 0)), [])) := by kernel_rfl
theorem sumPost (h ix : Int) (o len cap : Nat) (cs : List Value) (ro : Bool) (j : Option Value) : ycode Tryz.prog okN yc0 (kp 55) 100 (sub (codeOf Tryz.prog 55) [1,1,1]) ([none, none, none, none, none, some (.int .u64 h)] ++ nn 6 ++ [some (.slice (some ⟨0, o, none⟩) len cap), some (.int .i64 len), some (.int .i64 ix), j] ++ nn 13) { heap := PT.leaf.set 0 (some (.row cs 1 ro)), next := 1, glob := 0 } [] = some (true, ((XE.ret, ([none, none, none, none, some (.int .u64 h)] ++ nn 24), (stO PT.leaf [(0, some (.row cs 1 ro))] 1 0)), [])) := by kernel_rfl
end Go.Xe
