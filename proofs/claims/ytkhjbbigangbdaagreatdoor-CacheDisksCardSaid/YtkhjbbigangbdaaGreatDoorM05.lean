/- A part of the proof. -/
import Derived.Test.YtkhjbbigangbdaaGreatDoorM04
import Derived.Orders
import Derived.LoopN
set_option linter.all false
namespace Go.Xe
open Go
theorem addAs_congr (V : St) (base : Nat) (p q : Nat → Bool) : ∀ l : List (Nat × Ent), (∀ x e, (x, e) ∈ l → p x = q x) → addAs V base p l = addAs V base q l
 | [], _ => rfl
 | (i, e) :: r, h => by
  simp only [addAs, h i e (by simp), addAs_congr V base p q r (fun x g hm => h x g (by simp [hm]))]
section
variable {P : Program} {okF : FuncId → Bool} {call : XCall} {ops : Array Oper} {f : Nat → Dr} {a0 : XAct} {V0 S0 : St} {α0 : Place} {w0 : World} {act0 : Act}
variable {l : Array Bool} {α : Place} {w : World} {act : Act} {j : Nat} {V : St} {ab : Nat}
theorem put_defers (a : Act) (d : Option Tmp) (v : Value) : (a.put d v).defers = a.defers := by cases d <;> rfl
theorem Inv.step (I : Inv P ops f a0 S0 α0 w0 act0 l α w act j V ab) (W : Walk P okF call ops S0.next f a0 V0) (hd : drawOk ops = true) {i : Nat} {o : Oper} (ho : ops.toList[i]? = some o)
 (hr : ∀ e ∈ o.after.toList, Region.binds .any e = true → Lst l e.on = true) {β : Place} {w' : World} {v v' : Value} {j' : Nat} {V' : St} {ab' : Nat} (hx : α.Ext β) (hv : VRel β v v') (hs : (f (i + 1)).a = putX (f i).a o.dst v)
 (hist : (f ops.toList.length).hist[j']? = some (V', ab')) (done : ∀ k x, (f ops.toList.length).ws[k]? = some x → (Lst (l.setIfInBounds i true) x = true ↔ k < j'))
 (next : Next α0 S0 w0 β (addAs V' S0.next (fun x => Lst (l.setIfInBounds i true) x && !ab'.testBit x) (f ops.toList.length).as) w')
 (free : ∀ x, x < ops.toList.length → ab'.testBit x = false → V'.heap.get (S0.next + x) = none) (nxt : S0.next + ops.toList.length ≤ V'.next) (glob : V'.glob = S0.glob)
 (nul : ∀ x, x < ops.toList.length → x ≠ i → α (S0.next + x) = none → β (S0.next + x) = none) : Inv P ops f a0 S0 α0 w0 act0 (l.setIfInBounds i true) β w' (act.put o.dst v') j' V' ab' := by
 have hi := (List.getElem?_eq_some_iff.1 ho).1
 have hil : i < l.size := by rw [I.sz]; exact hi
 have once := hd
 simp only [drawOk, Bool.and_eq_true] at once
 have hdst : ∀ (m : Nat) (p : Oper) (t : Tmp), ops.toList[m]? = some p → p.dst = some t → (dsts ops.toList)[m]? = some (some t) := by
  intro m p t hm hp; simp only [dsts, List.getElem?_map, hm, Option.map_some, hp]
 have huniq : ∀ (m m' : Nat) (p p' : Oper) (t : Tmp), ops.toList[m]? = some p → p.dst = some t → ops.toList[m']? = some p' → p'.dst = some t → m = m' := fun m m' p p' t hm hp hm' hp' =>
  onceOk_uniq _ t m m' once.1.1 (hdst _ _ _ hm hp) (hdst _ _ _ hm' hp')
 have keep : ∀ t : Tmp, o.dst ≠ some t → (act.put o.dst v').tmps[t]? = act.tmps[t]? := by
  intro t ht
  cases hod : o.dst with
  | none => rfl
  | some d =>
   have : d ≠ t := fun e => ht (by rw [hod, e])
   simp only [Act.put, Array.getElem?_setIfInBounds_ne this]
 refine ⟨by rw [Array.size_setIfInBounds]; exact I.sz, ?_, hist, done, next, free, nxt, glob, ?_, ?_, ?_, ?_, by rw [put_defers]; exact I.df⟩
 ·intro i' o' ho' hl e he hb
  rw [lst_set hil] at hl ⊢
  simp only [Bool.or_eq_true, decide_eq_true_eq] at hl ⊢
  rcases hl with rfl | hl
  ·rw [ho] at ho'; cases ho'
   exact .inr (hr e he hb)
  ·exact .inr (I.cl i' o' ho' hl e he hb)
 ·intro x hx' hl
  rw [lst_set hil] at hl
  simp only [Bool.or_eq_false_iff, decide_eq_false_iff_not] at hl
  exact nul x hx' hl.1 (I.nul x hx' hl.2)
 ·rw [I.tsz]
  cases o.dst <;> simp [Act.put]
 ·intro m p t u hm hp hl hsl
  rw [lst_set hil] at hl
  simp only [Bool.or_eq_true, decide_eq_true_eq] at hl
  by_cases hmi : m = i
  ·subst hmi
   rw [ho] at hm; cases hm
   have hst := W.stay t (m + 1) ops.toList.length (by omega) (Nat.le_refl _) (fun m' p' h5 h6 hm' hp' => by
    have := huniq m' m p' o t hm' hp' ho hp; omega)
   rw [hst, hs, hp] at hsl
   simp only [putX, slot_set] at hsl
   split at hsl
   ·rename_i hc
    cases hsl
    rw [hp]
    simp only [Act.put]
    have h1 := W.length m (by omega)
    have h2 := I.tsz
    have : t < act.tmps.size := by rw [← h2, ← h1]; exact hc.2
    exact ⟨v', by simp [this], hv⟩
   ·rename_i hc
    exfalso
    have h1 := W.length m (by omega)
    rcases Nat.lt_or_ge t (f m).a.length with h | h
    ·exact hc ⟨trivial, h⟩
    ·unfold slot at hsl
     rw [List.getElem?_eq_none h] at hsl
     cases hsl
  ·rcases hl with h | h
   ·exact absurd h hmi
   ·obtain ⟨u', h1, h2⟩ := I.new m p t u hm hp h hsl
    rw [keep t (fun e => hmi (huniq m i p o t hm hp ho e))]
    exact ⟨u', h1, h2.mono hx⟩
 ·intro t u hno hsl
  have hne : o.dst ≠ some t := fun e => by
   have := hno i o ho e
   rw [lst_set hil] at this
   simp at this
  rw [keep t hne]
  obtain ⟨u', h1, h2⟩ := I.old t u (fun m p hm hp => by
   have := hno m p hm hp
   rw [lst_set hil] at this
   simp only [Bool.or_eq_false_iff] at this
   exact this.2) hsl
  exact ⟨u', h1, h2.mono hx⟩
theorem Inv.at_write (I : Inv P ops f a0 S0 α0 w0 act0 l α w act j V ab) (W : Walk P okF call ops S0.next f a0 V0) {i : Nat} (hi : i < ops.toList.length) (hni : Lst l i = false) (hb : ∀ x, ((masks ops.toList).getD i 0).testBit x = true → Lst l x = true)
 (hw : (f (i + 1)).ws = (f i).ws ++ [i]) : (f ops.toList.length).ws[j]? = some i ∧ (f i).ws.length = j ∧ (f i).V = V ∧ (f i).ab = ab := by
 have G1 := W.grows (i + 1) ops.toList.length (by omega) (Nat.le_refl _)
 have G0 := W.grows i ops.toList.length (by omega) (Nat.le_refl _)
 have F := W.facts _ (Nat.le_refl ops.toList.length)
 have Fi := W.facts i (by omega)
 have h1 : (f ops.toList.length).ws[(f i).ws.length]? = some i := G1.ws _ _ (by rw [hw]; simp)
 have hnot : ¬ (f i).ws.length < j := fun h => by
  have := (I.done _ _ h1).2 h; rw [hni] at this; cases this
 have hle : ¬ j < (f i).ws.length := fun h => by
  have h2 : (f ops.toList.length).ws[j]? = some ((f i).ws[j]) := G0.ws _ _ (List.getElem?_eq_getElem h)
  have h3 := F.order _ _ _ _ h h2 h1
  have h4 := (I.done _ _ h2).1 (hb _ h3)
  exact Nat.lt_irrefl _ h4
 have hj : (f i).ws.length = j := by omega
 have h5 := G0.hist _ _ Fi.hlast
 rw [hj, I.hist] at h5
 cases h5
 exact ⟨hj ▸ h1, hj, rfl, rfl⟩
theorem Inv.unborn (I : Inv P ops f a0 S0 α0 w0 act0 l α w act j V ab) (W : Walk P okF call ops S0.next f a0 V0) {i : Nat} (hni : Lst l i = false) : ab.testBit i = false := by
 cases h : ab.testBit i with
 | false => rfl
 | true =>
  obtain ⟨j', y, h1, h2, h3⟩ := (W.facts _ (Nat.le_refl _)).hab _ _ I.hist i h
  have := I.closed ((I.done _ _ h2).2 h1) i h3
  rw [hni] at this; cases this
theorem Inv.quiet (I : Inv P ops f a0 S0 α0 w0 act0 l α w act j V ab) (W : Walk P okF call ops S0.next f a0 V0) (hd : drawOk ops = true) {i : Nat} {o : Oper} (ho : ops.toList[i]? = some o)
 (hr : ∀ e ∈ o.after.toList, Region.binds .any e = true → Lst l e.on = true) {β : Place} {w' : World} {v v' : Value} (hv : VRel β v v') (hs : (f (i + 1)).a = putX (f i).a o.dst v)
 (hnw : ∀ k : Nat, (f ops.toList.length).ws[k]? = some i → False) (hna : ∀ e, (i, e) ∈ (f ops.toList.length).as → False)
 (hn : Next α (addAs V S0.next (fun x => Lst l x && !ab.testBit x) (f ops.toList.length).as) w β (addAs V S0.next (fun x => Lst l x && !ab.testBit x) (f ops.toList.length).as) w') :
 Inv P ops f a0 S0 α0 w0 act0 (l.setIfInBounds i true) β w' (act.put o.dst v') j V ab := by
 have hi := (List.getElem?_eq_some_iff.1 ho).1
 have hil : i < l.size := by rw [I.sz]; exact hi
 have hcong : addAs V S0.next (fun x => Lst (l.setIfInBounds i true) x && !ab.testBit x) (f ops.toList.length).as = addAs V S0.next (fun x => Lst l x && !ab.testBit x) (f ops.toList.length).as := by
  apply addAs_congr
  intro x e hm
  have : x ≠ i := fun h => by subst h; exact hna e hm
  simp [lst_set hil, this]
 refine I.step W hd ho hr hn.ext hv hs I.hist (fun k x hk => ?_) (by rw [hcong]; exact I.next.trans hn) I.free I.nxt I.glob (fun x hx _ hnone => ?_)
 ·have : x ≠ i := fun h => by subst h; exact hnw k hk
  rw [lst_set hil]
  simp only [this, decide_false, Bool.false_or]
  exact I.done k x hk
 ·rw [hn.old]
  ·exact hnone
  ·rw [addAs_next]; have := I.nxt; omega
theorem Inv.live (I : Inv P ops f a0 S0 α0 w0 act0 l α w act j V ab) : Rel α (addAs V S0.next (fun x => Lst l x && !ab.testBit x) (f ops.toList.length).as) w := I.next.rel
theorem wantedX_not {P : Program} {i : Nat} {e : Ent} {o : Oper} (ho : ops.toList[i]? = some o) (h : IsMade P ops f i e) : wantedX ops (f i).a o = some true ∧ isA o.op = true := by
 obtain ⟨o', sh, h1, h2, h3, _⟩ := h
 rw [ho] at h1; cases h1; exact ⟨h2, h3⟩
theorem wantedX_w {P : Program} {i : Nat} {o : Oper} (ho : ops.toList[i]? = some o) (h : IsWrite P ops f i) : wantedX ops (f i).a o = some true ∧ isA o.op = false ∧ isQ P o.op = false := by
 obtain ⟨o', h1, h2, h3, h4⟩ := h
 rw [ho] at h1; cases h1; exact ⟨h2, h3, h4⟩
theorem xal_int {ρ : Operand → Option Value} {op : Op} {r : Ent × (Nat → Value)} (h : xal P ρ op = some r) : xal P (fun x => match ρ x with | some (.int k n) => some (.int k n) | _ => none) op = some r := by
 unfold xal at h ⊢
 split at h
 ·exact h
 ·exact h
 ·rename_i t l c
  split at h
  ·rename_i k len k' cap hl hc
   simp only [hl, hc]
   exact h
  ·cases h
 ·cases h
theorem evalR_int {U : St} {a : XAct} {ls : List Tmp} {tmps : Array Value} {α : Place} (hs : ∀ t ∈ ls, ∀ v, slot a t = some v → ∃ v', tmps[t]? = some v' ∧ VRel α v v') {act : Act} (ht : act.tmps = tmps) (x : Operand) (v : Value)
 (hx : (match evalR U a ls x with | some (.int k n) => some (Value.int k n) | _ => none) = some v) : VRel α v (act.eval x) := by
 split at hx
 ·rename_i k n he
  cases hx
  cases x with
  | tmp t =>
   simp only [evalR] at he
   split at he
   ·rename_i hc
    obtain ⟨v', h1, h2⟩ := hs t (List.contains_iff_mem.1 hc) _ he
    simp only [Act.eval, Array.getD_eq_getD_getElem?, ht, h1]
    exact h2
   ·cases he
  | const c =>
   simp only [evalR, evalX] at he
   split at he
   ·rename_i hp; cases he; exact plain_rel α _ hp
   ·cases he
  | global g =>
   simp only [evalR, evalX] at he
   split at he
   ·split at he
    ·cases he
    ·cases he
   ·cases he
  | func g =>
   simp only [evalR, evalX] at he
   cases he
 ·cases hx
theorem Inv.one (I : Inv P ops f a0 S0 α0 w0 act0 l α w act j V ab) (W : Walk P okF call ops S0.next f a0 V0) (hF : OkF P okF) (hC : CallSound P call) (hd : drawOk ops = true) (hgle : S0.glob ≤ S0.next)
 (hq : (f ops.toList.length).ws = [] ∨ ∀ q, q ∈ (f ops.toList.length).qs → checkQ P okF ops (masks ops.toList) S0.next (f ops.toList.length) q (f ops.toList.length).hist 0 = true)
 {i : Nat} {o : Oper} (ho : ops.toList[i]? = some o) (hni : Lst l i = false) (hr : ∀ e ∈ o.after.toList, Region.binds .any e = true → Lst l e.on = true) {K : Act → World → Prop} {Q : Exit → Act → World → Prop}
 (hK : ∀ β w' act' j' V' ab', Inv P ops f a0 S0 α0 w0 act0 (l.setIfInBounds i true) β w' act' j' V' ab' → K act' w') : wpOp P ops Q i K act w := by
 have hi := (List.getElem?_eq_some_iff.1 ho).1
 have hil : i < l.size := by rw [I.sz]; exact hi
 have hbefore := I.before (by simp only [drawOk, Bool.and_eq_true] at hd; exact hd.2) ho hr
 have hsee := I.sees W hd ho hni hbefore
 have G0 := W.grows i ops.toList.length (by omega) (Nat.le_refl _)
 have G1 := W.grows (i + 1) ops.toList.length (by omega) (Nat.le_refl _)
 have F := W.facts _ (Nat.le_refl ops.toList.length)
 have hst := W.step i o ho
 have hoa : ops[i]? = some o := by rw [← Array.getElem?_toList]; exact ho
 unfold wpOp
 simp only [hoa]
 have hglobal : ∀ {p : Nat → Bool} {as : List (Nat × Ent)} (U : St), U.glob = S0.glob → ∀ g e, g < U.glob → U.heap.get g = some e → g < (addAs U S0.next p as).glob ∧ (addAs U S0.next p as).heap.get g = some e := by
  intro p as U hU g e hg he
  refine ⟨by rw [addAs_glob]; exact hg, ?_⟩
  rw [addAs_out _ _ _ _ _ (fun x _ _ _ => by omega)]
  exact he
 have upon : ∀ {as : List (Nat × Ent)} {v : Value} {T' : St}, (∀ q, q ∈ as → q ∈ (f ops.toList.length).as) → Uniq as →
  wantedX ops (f i).a o = some true →
  xrun P okF call (addAs V S0.next (fun x => ((masks ops.toList).getD i 0).testBit x && !ab.testBit x) as) (evalR V (f i).a (o.looksAt ops)) o = some (v, T') →
  (∀ β w' v', Next α (addAs V S0.next (fun x => ((masks ops.toList).getD i 0).testBit x && !ab.testBit x) as) w β T' w' → VRel β v v' → K (act.put o.dst v') w') →
  if Region.wanted o (yielded ops act.tmps) = true then o.wp P act w K Q ∨ (o.asks P act w ∧ LetsOut Q) else K (act.put o.dst undef) w := by
  intro as v T' hsub hu hw hx hk
  rw [if_pos (wanted_sees hsee hw)]
  refine .inl (xrun_sound hF hC (α := α) ?_ (fun x u hxu => evalR_sees (α := α) (w := w) (T := addAs V S0.next (fun x => ((masks ops.toList).getD i 0).testBit x && !ab.testBit x) as) ?_ hsee (hglobal V I.glob) x u hxu) hx hk)
  all_goals exact I.live.weaken (I.part W hsub hu (fun x hx => by
   simp only [Bool.and_eq_true, Bool.not_eq_true'] at hx
   exact ⟨hbefore x hx.1, hx.2⟩)) (by rw [addAs_next, addAs_next]) (by rw [addAs_glob, addAs_glob])
 generalize hd' : f (i + 1) = d' at hst
 cases hst with
 | skip hw =>
  rw [wanted_sees hsee hw]
  simp only [Bool.false_eq_true, if_false]
  refine hK α w _ j V ab (I.quiet W hd ho hr (undef_rel α) (by rw [hd']) (fun k hk => ?_) (fun e he => ?_) (.refl I.live))
  ·have := (wantedX_w ho (F.ws _ _ hk).2.1).1; rw [hw] at this; cases this
  ·have := (wantedX_not ho (F.as _ _ he).2).1; rw [hw] at this; cases this
 | alloc hw hA e sh hx =>
  rw [if_pos (wanted_sees hsee hw)]
  refine .inl ?_
  obtain ⟨hro, ⟨w', v', lc, hrun, g1, g2, g3, g4, g5, g6, g7⟩⟩ := xal_sound (P := P) (α := α) (w := w) (o := o) (ρ' := act.eval) (fun x v hx => evalR_int hsee rfl x v hx) (xal_int hx)
  unfold Oper.wp
  rw [hrun]
  simp only [Oper.upon]
  have hab := I.unborn W hni
  have hmem : (i, e) ∈ (f ops.toList.length).as := G1.as _ (by rw [hd']; simp)
  have hnull := I.nul i hi hni
  refine hK (α.upd (S0.next + i) lc) w' _ j V ab (I.step W hd ho hr (v := sh (S0.next + i)) ?_ (g7 _ _ (Place.upd_same _ _ _)) (by rw [hd']) I.hist (fun k x hk => ?_) ?_ I.free I.nxt I.glob (fun x hx hne hnone => ?_))
  ·intro n m hm
   rw [Place.upd_ne]
   ·exact hm
   ·intro h; subst h; rw [hnull] at hm; cases hm
  ·have : x ≠ i := fun h => by
    subst h
    have := (wantedX_w ho (F.ws _ _ hk).2.1).2.1; rw [hA] at this; cases this
   rw [lst_set hil]
   simp only [this, decide_false, Bool.false_or]
   exact I.done k x hk
  ·refine I.next.reserved hgle (S0.next + i) (by omega) (by rw [addAs_next]; have := I.nxt; omega) hnull e hro lc g1 g2 g3 g4 g5 (g6 _) ?_ (by rw [addAs_next, addAs_next]) (by rw [addAs_glob, addAs_glob])
   intro n g hng
   rcases addAs_get _ _ _ _ _ _ hng with ⟨x, h1, h2, rfl⟩ | ⟨h1, h2⟩
   ·simp only [Bool.and_eq_true, Bool.not_eq_true', lst_set hil, Bool.or_eq_true, decide_eq_true_eq] at h2
    by_cases hxi : x = i
    ·subst hxi
     exact .inl ⟨rfl, (W.uniq x g e h1 hmem)⟩
    ·refine .inr ⟨by omega, addAs_in _ _ _ _ W.uniq x g h1 ?_⟩
     rcases h2.1 with h | h
     ·exact absurd h hxi
     ·simp [h, h2.2]
   ·by_cases hni' : n = S0.next + i
    ·subst hni'
     rw [I.free i hi hab] at h2; cases h2
    ·refine .inr ⟨hni', ?_⟩
     rw [addAs_out]
     ·exact h2
     ·intro x g' hm hp
      refine h1 x g' hm ?_
      simp only [Bool.and_eq_true, Bool.not_eq_true', lst_set hil, Bool.or_eq_true] at hp ⊢
      exact ⟨.inr hp.1, hp.2⟩
  ·rw [Place.upd_ne]
   ·exact hnone
   ·omega
 | quiet hw hA hQ v S' hx =>
  have hnw : ∀ k : Nat, (f ops.toList.length).ws[k]? = some i → False := fun k hk => by
   have := (wantedX_w ho (F.ws _ _ hk).2.1).2.2; rw [hQ] at this; cases this
  have hna : ∀ e, (i, e) ∈ (f ops.toList.length).as → False := fun e he => by
   have := (wantedX_not ho (F.as _ _ he).2).2; rw [hA] at this; cases this
  have hview : ∃ as T', (∀ q, q ∈ as → q ∈ (f ops.toList.length).as) ∧ Uniq as ∧
   xop P okF (addAs V S0.next (fun x => ((masks ops.toList).getD i 0).testBit x && !ab.testBit x) as) (evalR V (f i).a (o.looksAt ops)) o = some (.val v, T') := by
   rcases hq with hq | hq
   ·have hwi : (f i).ws = [] := by
     cases hc : (f i).ws with
     | nil => rfl
     | cons a b =>
      have := G0.ws 0 a (by rw [hc]; rfl)
      rw [hq] at this; simp at this
    have h0 := G0.hist _ _ (W.facts i (by omega)).hlast
    rw [hwi] at h0
    have hj : j = 0 := by
     have := (List.getElem?_eq_some_iff.1 I.hist).1
     rw [F.hlen, hq] at this
     simpa using this
    subst hj
    have h1 := I.hist
    simp only [List.length_nil] at h0
    rw [h0] at h1
    cases h1
    exact ⟨(f i).as, S', G0.as, W.uniqAt (by omega), hx⟩
   ·have hqm : (⟨i, o, (f i).a, v⟩ : Qr) ∈ (f ops.toList.length).qs := G1.qs _ (by rw [hd']; simp)
    have := checkQ_at _ 0 (hq _ hqm) j V ab I.hist (by
     simp only [mayAt, Bool.and_eq_true, List.all_eq_true, Bool.not_eq_true']
     constructor
     ·intro x hx
      obtain ⟨k, hk⟩ := List.getElem?_of_mem hx
      rw [List.getElem?_drop] at hk
      cases hc : ((masks ops.toList).getD i 0).testBit x with
      | false => rfl
      | true =>
       have := (I.done _ _ hk).1 (hbefore x hc)
       omega
     ·intro x hx
      obtain ⟨k, hk⟩ := List.getElem?_of_mem hx
      rw [List.getElem?_take] at hk
      split at hk
      ·rename_i hlt
       cases hc : ((masks ops.toList).getD x 0).testBit i with
       | false => rfl
       | true =>
        have := I.closed ((I.done _ _ hk).2 (by omega)) i hc
        rw [hni] at this; cases this
      ·cases hk)
    obtain ⟨T', hT⟩ := this
    exact ⟨(f ops.toList.length).as, T', fun _ h => h, W.uniq, hT⟩
  obtain ⟨as, T', hsub, hu, hxo⟩ := hview
  obtain ⟨v2, e1, e2⟩ := quiet_same hQ hxo
  subst e2
  refine upon hsub hu hw (v := v) (by unfold xrun; rw [hxo]) (fun β w' v' hn hv => ?_)
  refine hK β w' _ j V ab (I.quiet W hd ho hr hv (by rw [hd']) hnw hna ?_)
  have hpart := I.part W hsub hu (p := fun x => ((masks ops.toList).getD i 0).testBit x && !ab.testBit x) (fun x hx => by
   simp only [Bool.and_eq_true, Bool.not_eq_true'] at hx
   exact ⟨hbefore x hx.1, hx.2⟩)
  refine Next.carry I.live hpart (by rw [addAs_next, addAs_next]) (by rw [addAs_glob, addAs_glob]) hn (fun n e hne => ?_) (by rw [addAs_next, addAs_next]) (by rw [addAs_glob, addAs_glob])
  cases hc : (addAs V S0.next (fun x => ((masks ops.toList).getD i 0).testBit x && !ab.testBit x) as).heap.get n with
  | none => exact .inr ⟨hne, rfl, I.live.live_lt hne⟩
  | some g =>
   have := hpart n g hc
   rw [hne] at this; cases this
   exact .inl rfl
 | write hw hA hQ hall v V' hx =>
  obtain ⟨hwj, hlen, hV, hab⟩ := I.at_write W hi hni hbefore (by rw [hd'])
  rw [hV, hab] at hx
  rw [hab] at hd'
  have hna : ∀ e, (i, e) ∈ (f ops.toList.length).as → False := fun e he => by
   have := (wantedX_not ho (F.as _ _ he).2).2; rw [hA] at this; cases this
  have hsub := G0.as
  have hu := W.uniqAt (k := i) (by omega)
  refine upon hsub hu hw hx (fun β w' v' hn hv => ?_)
  have hpart := I.part W hsub hu (p := fun x => ((masks ops.toList).getD i 0).testBit x && !ab.testBit x) (fun x hx => by
   simp only [Bool.and_eq_true, Bool.not_eq_true'] at hx
   exact ⟨hbefore x hx.1, hx.2⟩)
  have hTnone : ∀ x, x < ops.toList.length → ((masks ops.toList).getD i 0).testBit x = false → ab.testBit x = false →
   (addAs V S0.next (fun x => ((masks ops.toList).getD i 0).testBit x && !ab.testBit x) (f i).as).heap.get (S0.next + x) = none := by
   intro x hx h1 h2
   rw [addAs_out]
   ·exact I.free x hx h2
   ·intro y g hm hp he
    have : y = x := by omega
    subst this
    rw [h1] at hp; simp at hp
  have hnx := hn.next
  rw [addAs_next] at hnx
  have hng := hn.glob
  rw [addAs_glob] at hng
  have hnxt := I.nxt
  refine hK β w' _ (j + 1) V' (ab ||| (masks ops.toList).getD i 0) (I.step W hd ho hr hn.ext hv (by rw [hd']) ?_ (fun k x hk => ?_) ?_ (fun x hx hb => ?_) (by omega) (hng.trans I.glob) (fun x hx _ hnone => ?_))
  ·refine G1.hist _ _ ?_
   rw [hd']
   simp only
   have := (W.facts i (by omega)).hlen
   rw [List.getElem?_append_right (by omega), this, hlen]
   simp
  ·rw [lst_set hil]
   have hkl := (F.ws _ _ hk).2.2
   by_cases hxi : x = i
   ·subst hxi
    have : k = j := by omega
    simp [this]
   ·have h1 := I.done k x hk
    have : k ≠ j := fun h => by
     subst h; rw [hwj] at hk; cases hk; exact hxi rfl
    simp only [hxi, decide_false, Bool.false_or, h1]
    omega
  ·refine I.next.trans (Next.carry I.live hpart (by rw [addAs_next, addAs_next]) (by rw [addAs_glob, addAs_glob]) hn (fun n e hne => ?_) (by rw [addAs_next]) (by rw [addAs_glob]))
   rcases addAs_get _ _ _ _ _ _ hne with ⟨x, h1, h2, rfl⟩ | ⟨h1, h2⟩
   ·simp only [Bool.and_eq_true, Bool.not_eq_true', lst_set hil, Bool.or_eq_true, decide_eq_true_eq, Nat.testBit_or, Bool.or_eq_false_iff] at h2
    have hxi : x ≠ i := fun h => by subst h; exact hna e h1
    have hlx : Lst l x = true := by rcases h2.1 with h | h; exact absurd h hxi; exact h
    have hxl := (F.as _ _ h1).1
    refine .inr ⟨addAs_in _ _ _ _ W.uniq x e h1 (by simp [hlx, h2.2.1]), hTnone x hxl h2.2.2 h2.2.1, by rw [addAs_next]; omega⟩
   ·exact .inl h2
  ·simp only [Nat.testBit_or, Bool.or_eq_false_iff] at hb
   cases hc : V'.heap.get (S0.next + x) with
   | none => rfl
   | some g =>
    obtain ⟨g', hg'⟩ := hn.ids _ g hc (by rw [addAs_next]; omega)
    rw [hTnone x hx hb.2 hb.1] at hg'
    cases hg'
  ·rw [hn.old]
   ·exact hnone
   ·rw [addAs_next]; omega
theorem Next.widen {α β : Place} {S T : St} {w w' : World} (n : Next α S w β T w') {m : Nat} (hm : T.next ≤ m) : Next α S w β { T with next := m } w' :=
 ⟨n.ext, ⟨n.rel.ent, n.rel.apart, fun i l hl => Nat.lt_of_lt_of_le (n.rel.fresh i l hl) hm, n.rel.size, n.rel.glob, Nat.le_trans n.rel.gle hm⟩, n.frame, n.kept, Nat.le_trans n.next hm, n.glob, n.old, n.ids, n.ros⟩
theorem count_set : ∀ (l : List Bool) (i : Nat), l[i]? = some false → (l.set i true).count false + 1 = l.count false
 | [], i, h => by simp at h
 | b :: l, 0, h => by
  simp only [List.getElem?_cons_zero, Option.some.injEq] at h
  subst h
  simp
 | b :: l, i + 1, h => by
  have := count_set l i (by simpa using h)
  simp only [List.set_cons_succ, List.count_cons]
  omega
theorem ready_mem {l : Array Bool} {i : Nat} (hsz : l.size = ops.toList.length) (h : i ∈ Region.ready .any ops l) : ∃ o, ops.toList[i]? = some o ∧ Lst l i = false ∧ ∀ e ∈ o.after.toList, Region.binds .any e = true → Lst l e.on = true := by
 unfold Region.ready at h
 rw [List.mem_filter, List.mem_range] at h
 obtain ⟨h1, h2⟩ := h
 have hi : i < ops.toList.length := by simpa using h1
 have ho : ops.toList[i]? = some ops[i] := by rw [Array.getElem?_toList]; exact Array.getElem?_eq_getElem h1
 refine ⟨_, ho, ?_, ?_⟩
 ·simp only [Bool.and_eq_true, Bool.not_eq_true'] at h2
  have := h2.1
  rw [Array.getD_eq_getD_getElem?, Array.getElem?_eq_getElem (by omega)] at this
  unfold Lst
  rw [Array.getD_eq_getD_getElem?, Array.getElem?_eq_getElem (by omega)]
  exact this
 ·simp only [Bool.and_eq_true, Array.getElem?_eq_getElem h1, Option.map_some, Option.getD_some] at h2
  intro e he hb
  have := Array.all_eq_true'.1 h2.2 e (Array.mem_toList_iff.1 he)
  simpa [hb] using this
theorem mem_ready {l : Array Bool} {i : Nat} {o : Oper} (hsz : l.size = ops.toList.length) (ho : ops.toList[i]? = some o) (hni : Lst l i = false) (hr : ∀ e ∈ o.after.toList, Region.binds .any e = true → Lst l e.on = true) : i ∈ Region.ready .any ops l := by
 have hi := (List.getElem?_eq_some_iff.1 ho).1
 have h1 : i < ops.size := by simpa using hi
 unfold Region.ready
 rw [List.mem_filter, List.mem_range]
 refine ⟨h1, ?_⟩
 have hoa : ops[i]? = some o := by rw [← Array.getElem?_toList]; exact ho
 simp only [Bool.and_eq_true, Bool.not_eq_true', hoa, Option.map_some, Option.getD_some]
 constructor
 ·unfold Lst at hni
  rw [Array.getD_eq_getD_getElem?, Array.getElem?_eq_getElem (by omega)] at hni ⊢
  exact hni
 ·rw [Array.all_eq_true']
  intro e he
  have := hr e (Array.mem_toList_iff.2 he)
  cases hb : Region.binds .any e with
  | false => simp
  | true => simp [this hb]
theorem Inv.all (I : Inv P ops f a0 S0 α0 w0 act0 l α w act j V ab) (he : edgesOk ops.toList 0 = true) (h : Region.ready .any ops l = []) : ∀ i, i < ops.toList.length → Lst l i = true := by
 intro i
 induction i using Nat.strongRecOn with
 | _ i ih =>
  intro hi
  cases hl : Lst l i with
  | true => rfl
  | false =>
   exfalso
   obtain ⟨o, ho⟩ := op_at (ops := ops) hi
   have := mem_ready I.sz ho hl (fun e hem hb => by
    have hlt := edgesOk_at ops.toList 0 i o he ho e hem hb
    rw [Nat.zero_add] at hlt
    exact ih e.on hlt (by omega))
   rw [h] at this
   cases this
theorem Inv.end (I : Inv P ops f a0 S0 α0 w0 act0 l α w act j V ab) (W : Walk P okF call ops S0.next f a0 V0) (hd : drawOk ops = true) (hall : ∀ i, i < ops.toList.length → Lst l i = true) :
 Next α0 S0 w0 α (addAs (f ops.toList.length).V S0.next (fun x => !(f ops.toList.length).ab.testBit x) (f ops.toList.length).as) w ∧ ARel α (f ops.toList.length).a act.tmps := by
 have F := W.facts _ (Nat.le_refl ops.toList.length)
 have hj : j = (f ops.toList.length).ws.length := by
  have h1 := (List.getElem?_eq_some_iff.1 I.hist).1
  rw [F.hlen] at h1
  rcases Nat.lt_or_ge j (f ops.toList.length).ws.length with h | h
  ·have h2 := List.getElem?_eq_getElem h
   have h3 := (I.done _ _ h2).1 (hall _ (F.ws _ _ h2).1)
   exact absurd h3 (Nat.lt_irrefl _)
  ·omega
 have h1 := I.hist
 rw [hj, F.hlast] at h1
 cases h1
 constructor
 ·have := I.next
  rw [addAs_congr _ _ _ (fun x => !(f ops.toList.length).ab.testBit x) _ (fun x e hm => by simp only [hall x (F.as _ _ hm).1, Bool.true_and])] at this
  exact this
 ·refine ⟨by rw [W.length _ (Nat.le_refl _)]; exact I.tsz, fun t v hv => ?_⟩
  by_cases hw : ∃ (m : Nat) (p : Oper), ops.toList[m]? = some p ∧ p.dst = some t
  ·obtain ⟨m, p, hm, hp⟩ := hw
   exact I.new m p t v hm hp (hall m (List.getElem?_eq_some_iff.1 hm).1) hv
  ·have hno : ∀ (m : Nat) (p : Oper), ops.toList[m]? = some p → p.dst ≠ some t := fun m p hm hp => hw ⟨m, p, hm, hp⟩
   have hst := W.stay t 0 ops.toList.length (Nat.zero_le _) (Nat.le_refl _) (fun m' p' _ _ hm' hp' => hno m' p' hm' hp')
   rw [hst, W.start] at hv
   exact I.old t v (fun m p hm hp => absurd hp (hno m p hm)) hv
theorem Inv.any (W : Walk P okF call ops S0.next f a0 V0) (hF : OkF P okF) (hC : CallSound P call) (hd : drawOk ops = true) (hgle : S0.glob ≤ S0.next)
 (hq : (f ops.toList.length).ws = [] ∨ ∀ q, q ∈ (f ops.toList.length).qs → checkQ P okF ops (masks ops.toList) S0.next (f ops.toList.length) q (f ops.toList.length).hist 0 = true) {Q : Exit → Act → World → Prop}
 (hQ : ∀ β w' act', Next α0 S0 w0 β (addAs (f ops.toList.length).V S0.next (fun x => !(f ops.toList.length).ab.testBit x) (f ops.toList.length).as) w' → ARel β (f ops.toList.length).a act'.tmps → act'.defers = act0.defers → Q .normal act' w') :
 ∀ (fuel : Nat) (l : Array Bool) (α : Place) (w : World) (act : Act) (j : Nat) (V : St) (ab : Nat), l.toList.count false ≤ fuel → Inv P ops f a0 S0 α0 w0 act0 l α w act j V ab → wpAny P .any ops Q fuel l act w
 | 0, l, α, w, act, j, V, ab, hc, I => by
  have hall : ∀ i, i < ops.toList.length → Lst l i = true := by
   intro i hi
   cases hl : Lst l i with
   | true => rfl
   | false =>
    exfalso
    have hil : i < l.size := by rw [I.sz]; exact hi
    have h0 : l.toList.count false = 0 := by omega
    rw [List.count_eq_zero] at h0
    apply h0
    unfold Lst at hl
    rw [Array.getD_eq_getD_getElem?, Array.getElem?_eq_getElem hil] at hl
    have : l[i] = false := hl
    rw [← this, Array.mem_toList_iff]
    exact Array.getElem_mem hil
  refine ⟨?_, ?_⟩
  ·cases hr : Region.ready .any ops l with
   | nil => rfl
   | cons x xs =>
    obtain ⟨o, h1, h2, _⟩ := ready_mem (i := x) I.sz (by rw [hr]; simp)
    rw [hall x (List.getElem?_eq_some_iff.1 h1).1] at h2; cases h2
  ·obtain ⟨h1, h2⟩ := I.end W hd hall
   exact hQ _ _ _ h1 h2 I.df
 | fuel + 1, l, α, w, act, j, V, ab, hc, I => by
  refine ⟨fun hr => ?_, fun i hi => ?_⟩
  ·have he := hd
   simp only [drawOk, Bool.and_eq_true] at he
   obtain ⟨h1, h2⟩ := I.end W hd (I.all he.2 hr)
   exact hQ _ _ _ h1 h2 I.df
  ·obtain ⟨o, ho, hni, hr⟩ := ready_mem I.sz hi
   refine I.one W hF hC hd hgle hq ho hni hr (fun β w' act' j' V' ab' I' => Inv.any W hF hC hd hgle hq hQ fuel _ _ _ _ _ _ _ ?_ I')
   have hil : i < l.size := by rw [I.sz]; exact (List.getElem?_eq_some_iff.1 ho).1
   unfold Lst at hni
   rw [Array.getD_eq_getD_getElem?, Array.getElem?_eq_getElem hil] at hni
   have hni : l[i] = false := hni
   have := count_set l.toList i (by rw [Array.getElem?_toList, Array.getElem?_eq_getElem hil, hni])
   simp only [Array.toList_setIfInBounds]
   omega
theorem xdraw_sound (hm : P.follows .mixedOrders = true) (hF : OkF P okF) (hC : CallSound P call) (hd : drawOk ops = true) {α : Place} {S : St} {w : World} {a a' : XAct} {act : Act} {S' : St} {id : Nat} {Q : Exit → Act → World → Prop}
 (h : Rel α S w) (r : ARel α a act.tmps) (hx : xdraw P okF call ops a S = some (a', S'))
 (hQ : ∀ β w' act', Next α S w β S' w' → ARel β a' act'.tmps → act'.defers = act.defers → Q .normal act' w') : (Code.region id ops true).wp P Q act w := by
 unfold xdraw at hx
 simp only at hx
 split at hx
 ·rename_i d hrun
  split at hx
  ·rename_i hchk
   cases hx
   obtain ⟨f, e1, e2, e3⟩ := runD_trace _ _ _ _ hrun
   subst e2
   have W : Walk P okF call ops S.next f a { S with next := S.next + ops.toList.length } := ⟨e1, fun k o ho => by have := e3 k o ho; rw [Nat.zero_add] at this; exact this⟩
   have hw0 : Rel α S { w with drawn := w.drawn + 1 } := h.of_heap rfl
   have hnw : Next α S w α S { w with drawn := w.drawn + 1 } := Next.of_heap h rfl ⟨rfl, rfl, rfl⟩
   apply wp_region_any hm
   have hl0 : ∀ x, Lst (Array.replicate ops.size false) x = false := by
    intro x
    unfold Lst
    rw [Array.getD_eq_getD_getElem?, Array.getElem?_replicate]
    split <;> rfl
   refine Inv.any (S0 := S) (α0 := α) (w0 := w) (act0 := act) W hF hC hd h.gle ?_ hQ ops.size _ α _ act 0 { S with next := S.next + ops.toList.length } 0 ?_ ?_
   ·simp only [Bool.or_eq_true, List.isEmpty_iff, List.all_eq_true] at hchk
    exact hchk
   ·simp [List.count_replicate]
   ·refine ⟨by simp, fun i o _ hl => ?_, ?_, fun k x hk => ?_, ?_, fun x hx _ => ?_, Nat.le_refl _, rfl, fun x hx _ => ?_, r.1, fun m o t v _ _ hl => ?_, fun t v _ hv => r.2 t v hv, rfl⟩
    ·rw [hl0] at hl; cases hl
    ·refine (W.grows 0 _ (Nat.zero_le _) (Nat.le_refl _)).hist 0 _ ?_
     rw [e1]; rfl
    ·rw [hl0]; simp
    ·rw [addAs_congr _ _ _ (fun _ => false) _ (fun x e _ => by simp only [hl0, Bool.false_and])]
     have hnone : ∀ l : List (Nat × Ent), addAs { S with next := S.next + ops.toList.length } S.next (fun _ => false) l = { S with next := S.next + ops.toList.length } := by
      intro l
      induction l with
      | nil => rfl
      | cons p l ih => obtain ⟨i, e⟩ := p; simp only [addAs, Bool.false_eq_true, if_false, ih]
     rw [hnone]
     exact hnw.widen (by omega)
    ·cases hc : S.heap.get (S.next + x) with
     | none => rfl
     | some e => have := h.live_lt hc; omega
    ·cases hc : α (S.next + x) with
     | none => rfl
     | some m => have := h.fresh _ _ hc; omega
    ·rw [hl0] at hl; cases hl
  ·cases hx
 ·cases hx
end
inductive XE where
 | normal
 | exit (id : Nat)
 | ret
def XE.to : XE → Exit
 | .normal => .normal
 | .exit id => .exit id
 | .ret => .ret
abbrev XOut := Option (XE × XAct × St)
def XOut.then (r : XOut) (k : XAct → St → XOut) : XOut :=
 match r with
 | some (.normal, a, S) => k a S
 | r => r
def XOut.block (r : XOut) (id : Nat) : XOut :=
 match r with
 | some (.exit i, a, S) => if i = id then some (.normal, a, S) else some (.exit i, a, S)
 | r => r
def dropF (m : Nat) : XAct → Nat → XAct
 | [], _ => []
 | v :: r, i => (if m.testBit i then v else none) :: dropF m r (i + 1)
def drop (m : Option Nat) (a : XAct) : XAct :=
 match m with
 | some m => dropF m a 0
 | none => a
def xnorm (m : Option Nat) (r : Option (XAct × St)) : XOut :=
 match r with
 | some (a, S) => some (.normal, drop m a, S)
 | none => none
section
variable (P : Program) (okF : FuncId → Bool) (call : XCall) (fg : Nat → Option Nat)
def xcode : Nat → Code → XAct → St → XOut
 | 0, _, _, _ => none
 | n + 1, c, a, S => match c with
  | .skip => some (.normal, a, S)
  | .region id ops false => xnorm (fg id) (xops P okF call ops ops.toList a S)
  | .region id ops true => xnorm (fg id) (xdraw P okF call ops a S)
  | .seq x y => (xcode n x a S).then fun a' S' => xcode n y a' S'
  | .cond c x y => match evalX S a c with
   | some (.bool true) => xcode n x a S
   | some (.bool false) => xcode n y a S
   | _ => none
  | .block id c => (xcode n c a S).block id
  | .loop c => (xcode n c a S).then fun a' S' => xcode n (.loop c) a' S'
  | .exit id => some (.exit id, a, S)
  | .ret => some (.ret, a, S)
  | .label _ => some (.normal, a, S)
  | _ => none
def xres1 (a : XAct) (S : St) : ResultVar → Option Value
 | .tmp t => slot a t
 | .cell t ty => match slot a t with
  | some v => xload P S ty v
  | none => none
def xresL (a : XAct) (S : St) : List ResultVar → Option (List Value)
 | [] => some []
 | r :: l => match xres1 P a S r, xresL a S l with
  | some v, some vs => some (v :: vs)
  | _, _ => none
def xres (fn : Func) (a : XAct) (S : St) : Option Value :=
 match xresL P a S fn.results.toList with
 | some [v] => some v
 | some l => some (.tuple l.toArray)
 | none => none
def startX (fn : Func) (args : List Value) : XAct := args.map some ++ List.replicate (fn.ntmps - args.length) none
def xbody (n : Nat) (fn : Func) (c : Code) (args : List Value) (S : St) : Option (Value × St) :=
 match xcode P okF call fg n c (startX fn args) S with
 | some (.exit _, _, _) => none
 | some (_, a, S') => match xres P fn a S' with
  | some v => some (v, S')
  | none => none
 | none => none
end
section
variable {P : Program} {okF : FuncId → Bool} {call : XCall} {fg : Nat → Option Nat}
theorem dropF_length (m : Nat) : ∀ (a : XAct) (i : Nat), (dropF m a i).length = List.length a
 | [], i => rfl
 | v :: r, i => by simp only [dropF, List.length_cons, dropF_length m r]
theorem dropF_slot (m : Nat) : ∀ (a : XAct) (i k : Nat) (v : Value), slot (dropF m a i) k = some v → slot a k = some v
 | [], i, k, v, h => h
 | x :: r, i, 0, v, h => by
  unfold slot at h ⊢
  simp only [dropF, List.getElem?_cons_zero] at h ⊢
  split at h
  ·exact h
  ·cases h
 | x :: r, i, k + 1, v, h => dropF_slot m r (i + 1) k v h
theorem ARel.drop {α : Place} {a : XAct} {t : Array Value} (m : Option Nat) (r : ARel α a t) : ARel α (drop m a) t := by
 unfold Xe.drop
 cases m with
 | none => exact r
 | some m => exact ⟨by rw [dropF_length]; exact r.1, fun i v hv => r.2 i v (dropF_slot m a 0 i v hv)⟩
theorem xnorm_some {m : Option Nat} {r : Option (XAct × St)} {e : XE} {a : XAct} {S : St} (h : xnorm m r = some (e, a, S)) : ∃ a0, r = some (a0, S) ∧ a = drop m a0 ∧ e = .normal := by
 unfold xnorm at h
 split at h
 ·cases h; exact ⟨_, rfl, rfl, rfl⟩
 ·cases h
abbrev Leaves (Q : Exit → Act → World → Prop) (α : Place) (S : St) (w : World) (act : Act) (e : XE) (a' : XAct) (S' : St) : Prop :=
 ∀ β w' act', Next α S w β S' w' → ARel β a' act'.tmps → act'.defers = act.defers → Q e.to act' w'
theorem xcode_sound (hm : P.follows .mixedOrders = true) (hF : OkF P okF) (hC : CallSound P call) : ∀ (n : Nat),
 (∀ (c : Code) (a : XAct) (S : St) (α : Place) (w : World) (act : Act) (e : XE) (a' : XAct) (S' : St) (Q : Exit → Act → World → Prop), goodCode c = true → Rel α S w → ARel α a act.tmps →
  xcode P okF call fg n c a S = some (e, a', S') → Leaves Q α S w act e a' S' → c.wp P Q act w) ∧
 (∀ (c : Code) (a : XAct) (S : St) (α : Place) (w : World) (act : Act) (e : XE) (a' : XAct) (S' : St) (Q : Exit → Act → World → Prop), goodCode c = true → Rel α S w → ARel α a act.tmps →
  xcode P okF call fg n (.loop c) a S = some (e, a', S') → Leaves Q α S w act e a' S' → Code.rounds P c Q n act w) := by
 intro n
 induction n with
 | zero => exact ⟨fun _ _ _ _ _ _ _ _ _ _ _ _ _ h => by simp [xcode] at h, fun _ _ _ _ _ _ _ _ _ _ _ _ _ h => by simp [xcode] at h⟩
 | succ n ih =>
  obtain ⟨ih, ihl⟩ := ih
  have hloop : ∀ (c : Code) (a : XAct) (S : St) (α : Place) (w : World) (act : Act) (e : XE) (a' : XAct) (S' : St) (Q : Exit → Act → World → Prop), goodCode c = true → Rel α S w → ARel α a act.tmps →
   xcode P okF call fg (n + 1) (.loop c) a S = some (e, a', S') → Leaves Q α S w act e a' S' → Code.rounds P c Q (n + 1) act w := by
   intro c a S α w act e a' S' Q hg h r hx hQ
   simp only [xcode] at hx
   rw [rounds_succ]
   unfold XOut.then at hx
   split at hx
   ·rename_i a1 S1 h1
    refine ih c a S α w act _ a1 S1 _ hg h r h1 (fun β w' act' hn hr hd => ?_)
    exact ihl c a1 S1 β w' act' e a' S' Q hg hn.rel hr hx (fun γ w'' act'' hn' hr' hd' => hQ γ w'' act'' (hn.trans hn') hr' (hd'.trans hd))
   ·rename_i hnn
    refine ih c a S α w act e a' S' _ hg h r hx (fun β w' act' hn hr hd => ?_)
    cases e with
    | normal => exact absurd hx (hnn _ _)
    | exit id => exact hQ β w' act' hn hr hd
    | ret => exact hQ β w' act' hn hr hd
  refine ⟨?_, hloop⟩
  intro c a S α w act e a' S' Q hg h r hx hQ
  cases c with
  | skip =>
   simp only [xcode] at hx; cases hx
   exact wp_skip (hQ α w act (.refl h) r rfl)
  | region id ops d =>
   cases d with
   | false =>
    simp only [xcode] at hx
    obtain ⟨a0, h1, rfl, rfl⟩ := xnorm_some hx
    exact wp_region_list (xops_sound hF hC ops Q ops.toList a S α w act a0 S' h r h1 (fun β w' act' hn hr hd => hQ β w' act' hn (hr.drop _) hd))
   | true =>
    simp only [xcode] at hx
    obtain ⟨a0, h1, rfl, rfl⟩ := xnorm_some hx
    exact xdraw_sound hm hF hC hg h r h1 (fun β w' act' hn hr hd => hQ β w' act' hn (hr.drop _) hd)
  | seq x y =>
   simp only [goodCode, Bool.and_eq_true] at hg
   simp only [xcode] at hx
   unfold XOut.then at hx
   apply wp_seq
   split at hx
   ·rename_i a1 S1 h1
    refine ih x a S α w act _ a1 S1 _ hg.1 h r h1 (fun β w' act' hn hr hd => ?_)
    exact ih y a1 S1 β w' act' e a' S' Q hg.2 hn.rel hr hx (fun γ w'' act'' hn' hr' hd' => hQ γ w'' act'' (hn.trans hn') hr' (hd'.trans hd))
   ·rename_i hnn
    refine ih x a S α w act e a' S' _ hg.1 h r hx (fun β w' act' hn hr hd => ?_)
    cases e with
    | normal => exact absurd hx (hnn _ _)
    | exit id => exact hQ β w' act' hn hr hd
    | ret => exact hQ β w' act' hn hr hd
  | cond c x y =>
   simp only [goodCode, Bool.and_eq_true] at hg
   simp only [xcode] at hx
   split at hx
   ·rename_i hc
    have := evalX_rel h r _ _ hc
    generalize hv : act.eval c = v at this
    cases this
    exact wp_cond_true hv (ih x a S α w act e a' S' Q hg.1 h r hx hQ)
   ·rename_i hc
    have := evalX_rel h r _ _ hc
    generalize hv : act.eval c = v at this
    cases this
    exact wp_cond_false hv (ih y a S α w act e a' S' Q hg.2 h r hx hQ)
   ·cases hx
  | block id c =>
   simp only [goodCode] at hg
   simp only [xcode] at hx
   unfold XOut.block at hx
   apply wp_block
   split at hx
   ·rename_i i a1 S1 h1
    refine ih c a S α w act _ a1 S1 _ hg h r h1 (fun β w' act' hn hr hd => ?_)
    simp only [XE.to, Exit.inBlock]
    split at hx
    ·rename_i hi
     rw [if_pos hi]
     cases hx
     exact hQ β w' act' hn hr hd
    ·rename_i hi
     rw [if_neg hi]
     cases hx
     exact hQ β w' act' hn hr hd
   ·rename_i hnn
    refine ih c a S α w act e a' S' _ hg h r hx (fun β w' act' hn hr hd => ?_)
    cases e with
    | normal => exact hQ β w' act' hn hr hd
    | exit id => exact absurd hx (hnn _ _ _)
    | ret => exact hQ β w' act' hn hr hd
  | loop c =>
   simp only [goodCode] at hg
   exact wp_loop_rounds (n + 1) (hloop c a S α w act e a' S' Q hg h r hx hQ)
  | exit id =>
   simp only [xcode] at hx; cases hx
   exact wp_exit (hQ α w act (.refl h) r rfl)
  | ret =>
   simp only [xcode] at hx; cases hx
   exact wp_ret (hQ α w act (.refl h) r rfl)
  | label l =>
   simp only [xcode] at hx; cases hx
   exact wp_label (hQ α w act (.refl h) r rfl)
  | rangeFunc _ _ _ _ => simp [xcode] at hx
  | scope _ => simp [xcode] at hx
  | goto _ => simp [xcode] at hx
  | refuse _ => simp [xcode] at hx
def res1 (act : Act) : ResultVar → Sem Value
 | .tmp t => pure (act.tmps.getD t undef)
 | .cell a t => do loadVar t (← asAddr (act.tmps.getD a undef))
theorem xresL_sound {α : Place} {S : St} {w : World} {a : XAct} {act : Act} (h : Rel α S w) (r : ARel α a act.tmps) : ∀ (l : List ResultVar) (vs : List Value), xresL P a S l = some vs →
 ∃ vs' : List Value, (l.mapM (res1 act)).run P w = .ok vs' w ∧ LRel α vs vs'
 | [], vs, hx => by
  simp only [xresL] at hx; cases hx
  exact ⟨[], rfl, .nil α⟩
 | x :: l, vs, hx => by
  simp only [xresL] at hx
  split at hx
  ·rename_i v us hv hus
   cases hx
   obtain ⟨us', h1, h2⟩ := xresL_sound h r l us hus
   have hone : ∃ v', (res1 act x).run P w = .ok v' w ∧ VRel α v v' := by
    cases x with
    | tmp t =>
     simp only [xres1] at hv
     obtain ⟨v', g1, g2⟩ := r.2 t v hv
     refine ⟨v', ?_, g2⟩
     show (pure (act.tmps.getD t undef) : Sem Value).run P w = _
     rw [Array.getD_eq_getD_getElem?, g1]
     rfl
    | cell t ty =>
     simp only [xres1] at hv
     split at hv
     ·rename_i p hp
      obtain ⟨p', g1, g2⟩ := r.2 t p hp
      obtain ⟨v', g3, g4⟩ := xload_sound (P := P) h hv g2
      refine ⟨v', ?_, g4⟩
      have g1' : act.tmps.getD t undef = p' := by rw [Array.getD_eq_getD_getElem?, g1]; rfl
      show (do loadVar ty (← asAddr (act.tmps.getD t undef)) : Sem Value).run P w = _
      rw [g1']
      cases g2 <;> first | (simp [xload] at hv; done) | exact g3
     ·cases hv
   obtain ⟨v', g1, g2⟩ := hone
   refine ⟨v' :: us', ?_, .cons g2 h2⟩
   rw [List.mapM_cons, Sem.run_bind, g1]
   simp only [Result.andThen, Sem.run_bind, h1]
   rfl
  ·cases hx
theorem xres_sound {α : Place} {S : St} {w : World} {a : XAct} {act : Act} {fn : Func} (h : Rel α S w) (r : ARel α a act.tmps) {v : Value} (hx : xres P fn a S = some v) :
 ∃ v', (results fn act.tmps).run P w = .ok v' w ∧ VRel α v v' := by
 unfold xres at hx
 have key : ∀ l, xresL P a S fn.results.toList = some l → ∃ l' : List Value, (results fn act.tmps).run P w = .ok (if h : l'.toArray.size = 1 then l'.toArray[0] else .tuple l'.toArray) w ∧ LRel α l l' := by
  intro l hl
  obtain ⟨l', h1, h2⟩ := xresL_sound h r _ _ hl
  refine ⟨l', ?_, h2⟩
  have he : results fn act.tmps = (do let vs ← fn.results.mapM (res1 act); pure (if h : vs.size = 1 then vs[0] else .tuple vs)) := rfl
  rw [he, Sem.run_bind, Array.mapM_eq_mapM_toList, map_eq_pure_bind, Sem.run_bind, h1]
  rfl
 split at hx
 ·rename_i v1 hl
  cases hx
  obtain ⟨l', h1, h2⟩ := key _ hl
  obtain ⟨hlen, hr⟩ := h2
  match l', hlen with
  | [v'], _ =>
   refine ⟨v', h1, hr 0 _ _ rfl rfl⟩
 ·rename_i l hne hl
  cases hx
  obtain ⟨l', h1, h2⟩ := key _ hl
  refine ⟨_, h1, ?_⟩
  have hlen := h2.1
  rw [dif_neg]
  ·exact h2.tuple
  ·simp only [List.size_toArray]
   intro h1
   rw [h1] at hlen
   match l, hlen with
   | [v], _ => exact hne v rfl
 ·cases hx
theorem startX_rel {α : Place} {fn : Func} {args : List Value} {args' : Array Value} (h : LRel α args args'.toList) : ARel α (startX fn args) (args' ++ Array.replicate (fn.ntmps - args'.size) undef) := by
 have hlen : args.length = args'.size := by have := h.1; simpa using this
 refine ⟨by simp [startX, hlen], fun i v hv => ?_⟩
 unfold slot startX at hv
 by_cases hi : i < args.length
 ·rw [List.getElem?_append_left (by simpa using hi), List.getElem?_map, List.getElem?_eq_getElem hi] at hv
  simp only [Option.map_some] at hv
  have hv : some args[i] = some v := hv
  cases hv
  obtain ⟨v', h1, h2⟩ := h.get (List.getElem?_eq_getElem hi)
  refine ⟨v', ?_, h2⟩
  rw [Array.getElem?_append_left (by omega)]
  rw [← Array.getElem?_toList]; exact h1
 ·rw [List.getElem?_append_right (by simpa using hi), List.getElem?_replicate] at hv
  split at hv
  ·rename_i x hx
   split at hx
   ·cases hx; cases hv
   ·cases hx
  ·cases hv
theorem xbody_sound (hm : P.follows .mixedOrders = true) (hF : OkF P okF) (hC : CallSound P call) {f : FuncId} {fn : Func} {c : Code} (hf : P.funcs[f]? = some fn) (hb : fn.body = some c) (hg : goodCode c = true) {n : Nat} {args : List Value} {S S' : St} {v : Value}
 (hx : xbody P okF call fg n fn c args S = some (v, S')) {α : Place} {w : World} {args' : Array Value} (h : Rel α S w) (hargs : LRel α args args'.toList) :
 Calls P f args' w fun e w' => ∃ β v', e = .returned v' ∧ Next α S w β S' w' ∧ VRel β v v' := by
 unfold xbody at hx
 apply calls_of_wp hf hb
 split at hx
 ·cases hx
 ·rename_i e a S1 hne hcode
  split at hx
  ·rename_i u hres
   cases hx
   refine (xcode_sound hm hF hC n).1 c _ S α w _ e a _ _ hg h (startX_rel hargs) hcode (fun β w' act' hn hr hd => ?_)
   obtain ⟨v', h1, h2⟩ := xres_sound (P := P) hn.rel hr hres
   cases e with
   | normal => exact ⟨hd, v', h1, β, v', rfl, hn, h2⟩
   | exit id => exact (hne _ rfl).elim
   | ret => exact ⟨hd, v', h1, β, v', rfl, hn, h2⟩
  ·cases hx
 ·cases hx
end
abbrev Y (β : Type) := Option (Bool × β)
namespace Y
variable {β γ : Type}
def pure (b : β) : Y β := some (true, b)
def req (c : Bool) (x : Y β) : Y β :=
 match x with
 | some (d, b) => some (c && d, b)
 | none => none
def bind (x : Y β) (f : β → Y γ) : Y γ :=
 match x with
 | some (c, b) => req c (f b)
 | none => none
def of (x : Option β) : Y β :=
 match x with
 | some b => some (true, b)
 | none => none
end Y
def intOf : Value → Int
 | .int _ n => n
 | _ => 0
def boolOf : Value → Bool
 | .bool b => b
 | _ => false
def strOf : Value → ByteArray
 | .string s => s
 | _ => ⟨#[]⟩
def isInt (k : IntKind) : Value → Bool
 | .int l _ => decide (k = l)
 | _ => false
def isBool : Value → Bool
 | .bool _ => true
 | _ => false
def isStr : Value → Bool
 | .string _ => true
 | _ => false
namespace St
def yloadN (S : St) (i o n : Nat) : Y (List Value) :=
 match S.heap.get i with
 | some (.row cs _ _) => .req (decide (o + n ≤ cs.length)) (.pure ((cs.drop o).take n))
 | _ => Option.none
def yload1 (S : St) (i o : Nat) : Y Value :=
 match S.heap.get i with
 | some (.row cs _ _) => .req (decide (o < cs.length)) (.pure (cs.getD o undefX))
 | _ => Option.none
def ystoreN (S : St) (i o : Nat) (vs : List Value) : Y St :=
 match S.heap.get i with
 | some (.row cs esz false) => .req (decide (o + vs.length ≤ cs.length)) (.req (vs.all one) (.pure (S.put i (.row (splice cs o vs) esz false))))
 | _ => Option.none
def ystore1 (S : St) (i o : Nat) (v : Value) : Y St :=
 match S.heap.get i with
 | some (.row cs esz false) => .req (decide (o < cs.length)) (.req (one v) (.pure (S.put i (.row (cs.set o v) esz false))))
 | _ => Option.none
def yrow (S : St) (cs : List Value) (esz : Nat) : Y St := .req (cs.all one) (.pure (S.new (.row cs esz false)))
end St
section
variable (P : Program)
def ywrap (t : TypeId) (v : Value) : Y Value :=
 match P.underlying t with
 | some (.int k) => .req (isInt k v) (.pure (.int k (intOf v)))
 | some .bool => .req (isBool v) (.pure (.bool (boolOf v)))
 | some .string => .req (isStr v) (.pure (.string (strOf v)))
 | _ => .pure v
def yload (S : St) (t : TypeId) (a : Value) : Y Value :=
 match a with
 | .pointer (some ⟨i, o, none⟩) =>
  match aggT P t with
  | some true => match sizeT P t with
   | some n => (S.yloadN i o n).bind fun l => .pure (.agg l.toArray)
   | none => none
  | some false => (S.yload1 i o).bind fun v => ywrap P t v
  | none => none
 | _ => none
def ystore (S : St) (t : TypeId) (a v : Value) : Y St :=
 match a with
 | .pointer (some ⟨i, o, none⟩) =>
  match v with
  | .agg cs => if sizeT P t = some cs.size then S.ystoreN i o cs.toList else none
  | v => if sizeT P t = some 1 then S.ystore1 i o v else none
 | _ => none
def ynewVar (S : St) (t : TypeId) (v : Value) : Y (Value × St) :=
 (S.yrow v.cells.toList (eszT P t)).bind fun S' => .pure (.pointer (some ⟨S.next, 0, none⟩), S')
def ybuildSlice (S : St) (t : TypeId) (len : Nat) (parts : List (Nat × Value)) : Y (Value × St) :=
 match P.underlying t with
 | some (.slice elem) => match sizeT P elem, zeroT P elem with
  | some size, some z =>
   if len * size > 2 ^ 24 ∨ size = 0 ∨ z.cells.size ≠ size then none else
   match xfill (fun i => some (i * size, size)) (zerosL z.cells.toList len) parts with
   | some l => (S.yrow l size).bind fun S' => .pure (.slice (some ⟨S.next, 0, none⟩) len len, S')
   | none => none
  | _, _ => none
 | _ => none
def ymakeSlice (S : St) (t : TypeId) (l c : Value) : Y (Value × St) :=
 match l, c with
 | .int _ len, .int _ cap =>
  match P.underlying t with
  | some (.slice elem) => match sizeT P elem, bytesT P elem, zeroT P elem with
   | some size, some bytes, some z =>
    if size ≠ 0 ∧ z.cells.size = size then
     .req (decide (IntKind.i64.wrap len = len)) (.req (decide (IntKind.i64.wrap cap = cap)) (.req (decide (0 ≤ len)) (.req (decide (len ≤ cap)) (.req (decide (bytes * cap.toNat ≤ 281474976710656))
      ((S.yrow (zerosL z.cells.toList cap.toNat) size).bind fun S' => .pure (.slice (some ⟨S.next, 0, none⟩) len.toNat cap.toNat, S'))))))
    else none
   | _, _, _ => none
  | _ => none
 | _, _ => none
def yindexAddr (t : TypeId) (x ix : Value) : Y Value :=
 match ix with
 | .int _ i => match P.underlying t, x with
  | some (.slice elem), .slice (some ⟨b, o, none⟩) len _ => match sizeT P elem with
   | some s => .req (decide (0 ≤ i)) (.req (decide (i < (len : Int))) (.pure (.pointer (some ⟨b, o + i.toNat * s, none⟩))))
   | none => none
  | some (.array len elem), .pointer (some ⟨b, o, none⟩) => match sizeT P elem with
   | some s => .req (decide (0 ≤ i)) (.req (decide (i < (len : Int))) (.pure (.pointer (some ⟨b, o + i.toNat * s, none⟩))))
   | none => none
  | _, _ => none
 | _ => none
def yindex (t : TypeId) (x ix : Value) : Y Value :=
 match ix with
 | .int _ i => match P.underlying t, x with
  | some .string, .string s => .req (decide (0 ≤ i)) (.req (decide (i.toNat < s.data.toList.length)) (.pure (.int .u8 (s.data.toList.getD i.toNat 0).toNat)))
  | _, _ => .of (xindex P t x ix)
 | _ => none
def yb (d top : Nat) : Option Value → Y Nat
 | none => .pure d
 | some (.int _ i) => .req (decide (0 ≤ i)) (.req (decide (i ≤ (top : Int))) (.pure i.toNat))
 | some _ => none
def ybounds (len cap : Nat) (lo hi mx : Option Value) : Y (Nat × Nat × Nat) :=
 Y.bind (yb cap cap mx) fun m => Y.bind (if hi.isNone && mx.isSome then none else yb len m hi) fun h => Y.bind (yb 0 h lo) fun l => Y.pure (l, h, m)
def yslice (S : St) (t : TypeId) (x : Value) (lo hi mx : Option Value) : Y Value :=
 match P.underlying t, x with
 | some .string, .string s =>
  if mx.isSome then none else
  (ybounds s.data.toList.length s.data.toList.length lo hi none).bind fun b => .pure (.string ⟨((s.data.toList.take b.2.1).drop b.1).toArray⟩)
 | some (.slice elem), .slice (some ⟨b, o, none⟩) len cap =>
  match sizeT P elem, S.heap.get b with
  | some s, some (.row _ esz _) => if esz = s ∧ s ≠ 0 then (ybounds len cap lo hi mx).bind fun r => .pure (.slice (some ⟨b, o + r.1 * s, none⟩) (r.2.1 - r.1) (r.2.2 - r.1)) else none
  | _, _ => none
 | _, _ => .of (xslice P S t x lo hi mx)
def yint (op : BinOp) (k : IntKind) (a b : Int) : Y Value :=
 match op with
 | .quo => .req (!decide (b = 0)) (.pure (.int k (k.wrap (a.tdiv b))))
 | .rem => .req (!decide (b = 0)) (.pure (.int k (a.tmod b)))
 | _ => .of (xint op k a b)
def yshift (op : BinOp) (k : IntKind) (x y : Int) : Y Value :=
 match op with
 | .shl => .req (!decide (y < 0)) (.pure (.int k (k.wrap (x * 2 ^ min y.toNat k.bits))))
 | .shr => .req (!decide (y < 0)) (.pure (.int k (x.fdiv (2 ^ min y.toNat k.bits))))
 | _ => none
def ystr (op : BinOp) (x y : ByteArray) : Y Value :=
 match op with
 | .add => .req (decide (x.data.toList.length + y.data.toList.length ≤ 9223372036854775807)) (.pure (.string ⟨(x.data.toList ++ y.data.toList).toArray⟩))
 | _ => .of (xstr op x y)
def yeqF (eq : TypeId → Value → Value → Option Bool) : List Field → List Value → List Value → Option Bool
 | [], _, _ => some true
 | f :: r, xs, ys =>
  if f.name = "_" then yeqF eq r xs ys else
  match xpart P f.type xs f.offset, xpart P f.type ys f.offset with
  | some a, some b => match eq f.type a b, yeqF eq r xs ys with
   | some b, some c => some (b && c)
   | _, _ => none
  | _, _ => none
def yeq (d : Nat) (t : TypeId) (x y : Value) : Option Bool :=
 match P.underlying t, x, y with
 | some (.struct fields), .agg xs, .agg ys => if P.stoodInHeld t then none else yeqF P (xeq P d) fields.toList xs.toList ys.toList
 | _, _, _ => xeq P (d + 1) t x y
def ybin (op : BinOp) (t : TypeId) (c : Bool) (x y : Value) : Y Value :=
 match op, x, y with
 | .shl, .int k a, .int _ b => yshift .shl k a b
 | .shr, .int k a, .int _ b => yshift .shr k a b
 | op, .int k a, .int k' b => if k = k' then yint op k a b else none
 | op, .string a, .string b => ystr op a b
 | .eql, .agg x, .agg y => if eqOk P t c (.agg x) (.agg y) then (match yeq P 11 t (.agg x) (.agg y) with | some b => .pure (.bool b) | none => none) else none
 | .neq, .agg x, .agg y => if eqOk P t c (.agg x) (.agg y) then (match yeq P 11 t (.agg x) (.agg y) with | some b => .pure (.bool (!b)) | none => none) else none
 | _, _, _ => .of (xbin P op t c x y)
def bytesOf (l : List Value) : List UInt8 := l.map fun v => UInt8.ofNat (intOf v).toNat
def yfirst (S : St) (size n : Nat) (x : Value) (z : Bool) : Y (List Value) :=
 if z then .req (decide (n = 0)) (.pure []) else
 .req (!decide (n = 0)) (match x with
 | .slice (some ⟨b, o, none⟩) _ _ => S.yloadN b o (n * size)
 | .string s => if size = 1 then .pure (byteVals (s.data.toList.take n)) else none
 | _ => none)
def yconvert (S : St) (src dst : TypeId) (x : Value) (z : Bool) : Y (Value × St) :=
 match P.underlying src, P.underlying dst, x with
 | some (.slice e), some .string, .slice (some ⟨b, o, none⟩) len _ =>
  match P.underlying e with
  | some (.int .u8) =>
   if z then .req (decide (len = 0)) (.pure (.string ⟨#[]⟩, S)) else
   .req (!decide (len = 0)) (match S.heap.get b with
   | some (.row _ esz _) => if esz = 1 then (S.yloadN b o len).bind fun l => .req (l.all (isInt .u8)) (.pure (.string ⟨(bytesOf l).toArray⟩, S)) else none
   | _ => none)
  | _ => none
 | some _, some (.slice e), .string s =>
  match P.underlying e with
  | some (.int .u8) => (S.yrow (byteVals s.data.toList) 1).bind fun S' => .pure (.slice (some ⟨S.next, 0, none⟩) s.data.toList.length s.data.toList.length, S')
  | _ => none
 | _, _, _ => .of (xconvert P S src dst x)
def yappend (S : St) (ts : List TypeId) (args : List Value) (z f : Bool) : Y (Value × St) :=
 match ts, args with
 | [t, u], [s, x] =>
  match P.underlying t, P.underlying u with
  | some (.slice _), some (.int _) => none
  | some (.slice elem), some _ =>
   match sizeT P elem, bytesT P elem, zeroT P elem, xlenOf x with
   | some size, some bytes, some zv, some n =>
    if size = 0 ∨ zv.cells.size ≠ size then none else
    (yfirst S size n x z).bind fun new =>
     match s with
     | .slice none 0 0 =>
      if z then .pure (.slice none 0 0, S) else
      .req (decide (n * bytes ≤ 140737488355328)) (.req (decide (n ≤ 9223372036854775807)) ((S.yrow new size).bind fun S' => .pure (.slice (some ⟨S.next, 0, none⟩) n n, S')))
     | .slice (some ⟨b, o, none⟩) len cap =>
      match S.heap.get b with
      | some (.row cs esz ro) =>
       if esz ≠ size ∨ ro = true then none else
       .req (decide (len ≤ cap)) (
       if z then .pure (.slice (some ⟨b, o, none⟩) len cap, S) else
       if f then .req (decide (len + n ≤ cap)) ((S.ystoreN b (o + len * size) new).bind fun S' => .pure (.slice (some ⟨b, o, none⟩) (len + n) cap, S'))
       else .req (!decide (len + n ≤ cap)) (.req (decide ((len + n) * bytes ≤ 140737488355328)) (.req (decide (len + n ≤ 9223372036854775807)) (.req (decide (o + len * size ≤ cs.length))
        (((S.kill b).yrow ((cs.drop o).take (len * size) ++ new) size).bind fun S' => .pure (.slice (some ⟨S.next, 0, none⟩) (len + n) (len + n), S'))))))
      | _ => none
     | _ => none
   | _, _, _, _ => none
  | _, _ => none
 | _, _ => none
def ycopy (S : St) (ts : List TypeId) (args : List Value) (z f : Bool) : Y (Value × St) :=
 match ts, args with
 | t :: _, [d, x] =>
  match P.underlying t with
  | some (.slice elem) =>
   match sizeT P elem, xlenOf x, d with
   | some size, some n, .slice (some ⟨b, o, none⟩) len _ =>
    if size = 0 then none else
    .req (if f then decide (n ≤ len) else decide (len ≤ n)) (
    (yfirst S size (if f then n else len) x z).bind fun l => if z then .pure (.int .i64 0, S) else
     (S.ystoreN b o l).bind fun S' => .pure (.int .i64 ((if f then n else len : Nat) : Int), S'))
   | _, _, _ => .of (xcopy P S ts args)
  | _ => none
 | _, _ => none
def ybuiltin (S : St) (b : Builtin) (ts : List TypeId) (args : List Value) (z f : Bool) : Y (Value × St) :=
 match b with
 | .append => yappend P S ts args z f
 | .copy => ycopy P S ts args z f
 | b => .of (xbuiltin P S b ts args)
def yval (S : St) (x : Y Value) : Y (Res × St) := x.bind fun v => .pure (.val v, S)
def yvals (x : Y (Value × St)) : Y (Res × St) := x.bind fun v => .pure (.val v.1, v.2)
def yskips (x : Y St) : Y (Res × St) := x.bind fun S => .pure (.skip, S)
def yop (okF : FuncId → Bool) (S : St) (ρ : Operand → Option Value) (o : Oper) (z f : Bool) : Y (Res × St) :=
 match o.op with
 | .pick c a b => match ρ c with
  | some (.bool q) => .req (if z then q else !q) (yval S (.of (if z then ρ a else ρ b)))
  | _ => none
 | .alloc e => match zeroT P e with
  | some v => yvals (ynewVar P S e v)
  | none => none
 | .box e x => match ρ x with
  | some v => yvals (ynewVar P S e v)
  | none => none
 | .buildSlice t len parts => match mapP ρ parts.toList with
  | some l => yvals (ybuildSlice P S t len l)
  | none => none
 | .load t a => match ρ a with
  | some v => yval S (yload P S t v)
  | none => none
 | .store t a x => match ρ a, ρ x with
  | some v, some u => yskips (ystore P S t v u)
  | _, _ => none
 | .binOp op t x y _ => match ρ x, ρ y with
  | some v, some u => yval S (ybin P op t (isConst x || isConst y) v u)
  | _, _ => none
 | .convert s d x => match ρ x with
  | some v => yvals (yconvert P S s d v z)
  | none => none
 | .makeSlice t l c => match ρ l, ρ c with
  | some v, some u => yvals (ymakeSlice P S t v u)
  | _, _ => none
 | .slice t x lo hi mx => match ρ x, optO ρ lo, optO ρ hi, optO ρ mx with
  | some v, some l, some h, some m => yval S (yslice P S t v l h m)
  | _, _, _, _ => none
 | .indexAddr t x i => match ρ x, ρ i with
  | some v, some u => yval S (yindexAddr P t v u)
  | _, _ => none
 | .index t x i => match ρ x, ρ i with
  | some v, some u => yval S (yindex P t v u)
  | _, _ => none
 | .call c => match mapO ρ c.args.toList with
  | none => none
  | some args => match c.callee with
   | .builtin b => yvals (ybuiltin P S b c.argTypes.toList args z f)
   | _ => .of (xop P okF S ρ o)
 | _ => .of (xop P okF S ρ o)
end
end Go.Xe
