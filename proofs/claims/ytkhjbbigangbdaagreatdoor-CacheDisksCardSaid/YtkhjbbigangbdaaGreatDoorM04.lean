/- A part of the proof. -/
import Derived.Test.YtkhjbbigangbdaaGreatDoorM03
set_option linter.all false
namespace Go.Xe
open Go
def addAs (V : St) (base : Nat) (p : Nat → Bool) : List (Nat × Ent) → St
 | [] => V
 | (i, e) :: r => if p i then (addAs V base p r).put (base + i) e else addAs V base p r
theorem addAs_next (V : St) (base : Nat) (p : Nat → Bool) : ∀ l, (addAs V base p l).next = V.next
 | [] => rfl
 | (i, e) :: r => by simp only [addAs]; split <;> simp [St.put, addAs_next V base p r]
theorem addAs_glob (V : St) (base : Nat) (p : Nat → Bool) : ∀ l, (addAs V base p l).glob = V.glob
 | [] => rfl
 | (i, e) :: r => by simp only [addAs]; split <;> simp [St.put, addAs_glob V base p r]
theorem addAs_get (V : St) (base : Nat) (p : Nat → Bool) : ∀ (l : List (Nat × Ent)) (id : Nat) (e : Ent), (addAs V base p l).heap.get id = some e →
 (∃ i, (i, e) ∈ l ∧ p i = true ∧ id = base + i) ∨ ((∀ i f, (i, f) ∈ l → p i = true → id ≠ base + i) ∧ V.heap.get id = some e)
 | [], id, e, h => .inr ⟨fun i f hm => by simp at hm, h⟩
 | (i, f) :: r, id, e, h => by
  simp only [addAs] at h
  split at h
  ·rename_i hp
   simp only [St.put] at h
   rw [PT.get_set] at h
   by_cases hid : id = base + i
   ·rw [if_pos hid] at h; cases h
    exact .inl ⟨i, by simp, hp, hid⟩
   ·rw [if_neg hid] at h
    rcases addAs_get V base p r id e h with ⟨j, h1, h2, h3⟩ | ⟨h1, h2⟩
    ·exact .inl ⟨j, by simp [h1], h2, h3⟩
    ·refine .inr ⟨fun j g hm hpj => ?_, h2⟩
     rcases List.mem_cons.1 hm with hm | hm
     ·cases hm; exact hid
     ·exact h1 j g hm hpj
  ·rename_i hp
   rcases addAs_get V base p r id e h with ⟨j, h1, h2, h3⟩ | ⟨h1, h2⟩
   ·exact .inl ⟨j, by simp [h1], h2, h3⟩
   ·refine .inr ⟨fun j g hm hpj => ?_, h2⟩
    rcases List.mem_cons.1 hm with hm | hm
    ·cases hm; exact absurd hpj hp
    ·exact h1 j g hm hpj
def Uniq (l : List (Nat × Ent)) : Prop := ∀ i e f, (i, e) ∈ l → (i, f) ∈ l → e = f
theorem addAs_in (V : St) (base : Nat) (p : Nat → Bool) : ∀ (l : List (Nat × Ent)), Uniq l → ∀ (i : Nat) (e : Ent), (i, e) ∈ l → p i = true → (addAs V base p l).heap.get (base + i) = some e
 | [], _, i, e, hm, _ => by simp at hm
 | (j, f) :: r, hu, i, e, hm, hp => by
  simp only [addAs]
  by_cases hj : j = i
  ·subst hj
   have : e = f := hu j e f hm (by simp)
   subst this
   rw [if_pos hp]
   simp only [St.put]
   rw [PT.get_set_same]
  ·have hm' : (i, e) ∈ r := by
    rcases List.mem_cons.1 hm with h | h
    ·cases h; exact absurd rfl hj
    ·exact h
   have ih := addAs_in V base p r (fun a b c h1 h2 => hu a b c (by simp [h1]) (by simp [h2])) i e hm' hp
   split
   ·simp only [St.put]
    rw [PT.get_set_ne _ _ (by omega)]
    exact ih
   ·exact ih
theorem addAs_out (V : St) (base : Nat) (p : Nat → Bool) : ∀ (l : List (Nat × Ent)) (id : Nat), (∀ i e, (i, e) ∈ l → p i = true → id ≠ base + i) → (addAs V base p l).heap.get id = V.heap.get id
 | [], id, _ => rfl
 | (j, f) :: r, id, h => by
  have ih := addAs_out V base p r id (fun i e hm hp => h i e (by simp [hm]) hp)
  simp only [addAs]
  split
  ·rename_i hp
   simp only [St.put]
   rw [PT.get_set_ne _ _ (h j f (by simp) hp)]
   exact ih
  ·exact ih
theorem Next.carry {α β : Place} {S T T' U : St} {w w' : World} (h : Rel α S w) (hs : ∀ i e, T.heap.get i = some e → S.heap.get i = some e) (hn : T.next = S.next) (hg : T.glob = S.glob)
 (n : Next α T w β T' w') (hu : ∀ i e, U.heap.get i = some e → T'.heap.get i = some e ∨ (S.heap.get i = some e ∧ T.heap.get i = none ∧ i < S.next)) (hun : U.next = T'.next) (hug : U.glob = T'.glob) :
 Next α S w β U w' := by
 have stay : ∀ i e l, S.heap.get i = some e → T.heap.get i = none → α i = some l → w'.heap[l.blk]? = w.heap[l.blk]? := by
  intro i e l hi ht hl
  refine n.frame.block _ (h.size i l hl) (fun j f m hj hf hm => ?_)
  have hij : j ≠ i := fun e => by subst e; rw [ht] at hj; cases hj
  exact h.apart j i f e m l hij (hs j f hj) hi (.inl hf) hm hl
 have far : ∀ j f m i e l, T'.heap.get j = some f → S.heap.get i = some e → T.heap.get i = none → (f.ro = false ∨ e.ro = false) → β j = some m → α i = some l → m.blk ≠ l.blk := by
  intro j f m i e l hj hi ht hro hm hl
  have hlt := h.size i l hl
  cases hfr : f.ro with
  | false =>
   rcases n.kept j f m hj hfr hm with h1 | ⟨k, g, q, hk, hgr, hq, hqm⟩
   ·omega
   ·have hki : k ≠ i := fun e => by subst e; rw [ht] at hk; cases hk
    have := h.apart k i g e q l hki (hs k g hk) hi (.inl hgr) hq hl
    omega
  | true =>
   have hT := n.ros j f hj hfr
   have hji : j ≠ i := fun e => by subst e; rw [ht] at hT; cases hT
   have hero : e.ro = false := by rcases hro with hro | hro; (rw [hfr] at hro; cases hro); exact hro
   have hjm : α j = some m := by
    rw [← n.old j (by rw [hn]; exact h.live_lt (hs j f hT))]; exact hm
   exact h.apart j i f e m l hji (hs j f hT) hi (.inr hero) hjm hl
 refine ⟨n.ext, ⟨?_, ?_, fun i l hl => by rw [hun]; exact n.rel.fresh i l hl, n.rel.size, fun i l hi hl => n.rel.glob i l (hug ▸ hi) hl, by rw [hug, hun]; exact n.rel.gle⟩,
  ⟨n.frame.size, fun b hb hne => n.frame.block b hb (fun i e l hi hr hl => hne i e l (hs i e hi) hr hl), n.frame.os, n.frame.tape, n.frame.output⟩, ?_, ?_, ?_, ?_, ?_, ?_⟩
 ·intro i e hi
  rcases hu i e hi with h1 | ⟨h1, h2, h3⟩
  ·exact n.rel.ent i e h1
  ·obtain ⟨l, hl, hr⟩ := h.ent i e h1
   exact ⟨l, n.ext _ _ hl, (hr.mono n.ext).of_block (stay i e l h1 h2 hl)⟩
 ·intro i j e f l m hij hi hj hro hl hm
  rcases hu i e hi with h1 | ⟨h1, h2, h3⟩
  ·rcases hu j f hj with g1 | ⟨g1, g2, g3⟩
   ·exact n.rel.apart i j e f l m hij h1 g1 hro hl hm
   ·obtain ⟨m', hm', _⟩ := h.ent j f g1
    have : m' = m := by have := n.ext _ _ hm'; rw [hm] at this; exact (Option.some.inj this).symm
    subst this
    exact far i e l j f m' h1 g1 g2 hro hl hm'
  ·obtain ⟨l', hl', _⟩ := h.ent i e h1
   have : l' = l := by have := n.ext _ _ hl'; rw [hl] at this; exact (Option.some.inj this).symm
   subst this
   rcases hu j f hj with g1 | ⟨g1, g2, g3⟩
   ·exact Ne.symm (far j f m i e l' g1 h1 h2 hro.symm hm hl')
   ·obtain ⟨m', hm', _⟩ := h.ent j f g1
    have : m' = m := by have := n.ext _ _ hm'; rw [hm] at this; exact (Option.some.inj this).symm
    subst this
    exact h.apart i j e f l' m' hij h1 g1 hro hl' hm'
 ·intro j f m hj hf hm
  rcases hu j f hj with g1 | ⟨g1, g2, g3⟩
  ·rcases n.kept j f m g1 hf hm with h1 | ⟨k, g, q, hk, hgr, hq, hqm⟩
   ·exact .inl h1
   ·exact .inr ⟨k, g, q, hs k g hk, hgr, hq, hqm⟩
  ·obtain ⟨m', hm', _⟩ := h.ent j f g1
   have : m' = m := by have := n.ext _ _ hm'; rw [hm] at this; exact (Option.some.inj this).symm
   subst this
   exact .inr ⟨j, f, m', g1, hf, hm', rfl⟩
 ·rw [hun, ← hn]; exact n.next
 ·rw [hug, n.glob, hg]
 ·intro i hi; exact n.old i (by rw [hn]; exact hi)
 ·intro i e hi hlt
  rcases hu i e hi with g1 | ⟨g1, g2, g3⟩
  ·obtain ⟨f, hf⟩ := n.ids i e g1 (by rw [hn]; exact hlt)
   exact ⟨f, hs i f hf⟩
  ·exact ⟨e, g1⟩
 ·intro i e hi hr
  rcases hu i e hi with g1 | ⟨g1, g2, g3⟩
  ·exact hs i e (n.ros i e g1 hr)
  ·exact g1
theorem Next.reserved {α0 α : Place} {S0 S U : St} {w0 w w' : World} (n : Next α0 S0 w0 α S w) (hgle : S0.glob ≤ S0.next) (i : Nat) (hi0 : S0.next ≤ i) (hi : i < S.next) (ha : α i = none) (e : Ent) (hero : e.ro = false) (l : Loc)
 (hl : w.heap.size ≤ l.blk) (hlt : l.blk < w'.heap.size) (hb : ∀ b, b < w.heap.size → w'.heap[b]? = w.heap[b]?) (hsz : w.heap.size ≤ w'.heap.size) (k : Alike0 w w') (he : EntRel (α.upd i l) w' l e)
 (hu : ∀ j f, U.heap.get j = some f → (j = i ∧ f = e) ∨ (j ≠ i ∧ S.heap.get j = some f)) (hun : U.next = S.next) (hug : U.glob = S.glob) : Next α0 S0 w0 (α.upd i l) U w' := by
 have hx : α.Ext (α.upd i l) := fun j m hm => by
  rw [Place.upd_ne]
  ·exact hm
  ·intro e'; subst e'; rw [ha] at hm; cases hm
 have h := n.rel
 refine ⟨n.ext.trans hx, ⟨?_, ?_, ?_, ?_, ?_, by rw [hug, hun]; exact h.gle⟩, ⟨Nat.le_trans n.frame.size hsz, ?_, k.os.trans n.frame.os, k.tape.trans n.frame.tape, k.output.trans n.frame.output⟩, ?_, by rw [hun]; exact n.next, by rw [hug]; exact n.glob, ?_, ?_, ?_⟩
 ·intro j x hj
  rcases hu j x hj with ⟨rfl, rfl⟩ | ⟨hne, hj1⟩
  ·exact ⟨_, Place.upd_same _ _ _, he⟩
  ·obtain ⟨m, hm, hr⟩ := h.ent j x hj1
   exact ⟨m, by rw [Place.upd_ne _ _ hne]; exact hm, (hr.mono hx).of_block (hb _ (h.size j m hm))⟩
 ·intro j j' x y m m' hjj hj hj' hro hm hm'
  rcases hu j x hj with ⟨rfl, rfl⟩ | ⟨hne, hj1⟩
  ·rcases hu j' y hj' with ⟨rfl, rfl⟩ | ⟨hne', hj1'⟩
   ·exact absurd rfl hjj
   ·rw [Place.upd_same] at hm; cases hm; rw [Place.upd_ne _ _ hne'] at hm'
    have := h.size j' m' hm'; omega
  ·rw [Place.upd_ne _ _ hne] at hm
   rcases hu j' y hj' with ⟨rfl, rfl⟩ | ⟨hne', hj1'⟩
   ·rw [Place.upd_same] at hm'; cases hm'
    have := h.size j m hm; omega
   ·rw [Place.upd_ne _ _ hne'] at hm'
    exact h.apart j j' x y m m' hjj hj1 hj1' hro hm hm'
 ·intro j m hm
  rw [hun]
  by_cases hji : j = i
  ·subst hji; exact hi
  ·rw [Place.upd_ne _ _ hji] at hm; exact h.fresh j m hm
 ·intro j m hm
  by_cases hji : j = i
  ·subst hji; rw [Place.upd_same] at hm; cases hm; exact hlt
  ·rw [Place.upd_ne _ _ hji] at hm; have := h.size j m hm; omega
 ·intro j m hj hm
  rw [hug] at hj
  by_cases hji : j = i
  ·subst hji
   exfalso
   have h1 := n.glob
   omega
  ·rw [Place.upd_ne _ _ hji] at hm; exact h.glob j m hj hm
 ·intro b hb' hne
  rw [hb b (Nat.lt_of_lt_of_le hb' n.frame.size)]
  exact n.frame.block b hb' hne
 ·intro j f m hj hf hm
  rcases hu j f hj with ⟨rfl, rfl⟩ | ⟨hne, hj1⟩
  ·rw [Place.upd_same] at hm; cases hm
   exact .inl (Nat.le_trans n.frame.size hl)
  ·rw [Place.upd_ne _ _ hne] at hm; exact n.kept j f m hj1 hf hm
 ·intro j hj
  rw [Place.upd_ne _ _ (by omega)]
  exact n.old j hj
 ·intro j f hj hlt
  rcases hu j f hj with ⟨rfl, rfl⟩ | ⟨hne, hj1⟩
  ·omega
  ·exact n.ids j f hj1 hlt
 ·intro j f hj hr
  rcases hu j f hj with ⟨rfl, rfl⟩ | ⟨hne, hj1⟩
  ·rw [hero] at hr; cases hr
  ·exact n.ros j f hj1 hr
def evalR (S : St) (a : XAct) (ls : List Tmp) : Operand → Option Value
 | .tmp t => if ls.contains t then slot a t else none
 | x => evalX S a x
structure Qr where
 i : Nat
 o : Oper
 a : XAct
 v : Value
structure Dr where
 a : XAct
 V : St
 hist : List (St × Nat)
 ws : List Nat
 as : List (Nat × Ent)
 ab : Nat
 qs : List Qr
section
variable (P : Program) (okF : FuncId → Bool) (call : XCall) (ops : Array Oper) (ms : List Nat) (base : Nat)
def stepD (i : Nat) (o : Oper) (d : Dr) : Option Dr :=
 match wantedX ops d.a o with
 | none => none
 | some false => some { d with a := putX d.a o.dst undefX }
 | some true =>
  if isA o.op then match xal P (evalR d.V d.a (o.looksAt ops)) o.op with
   | some (e, sh) => some { d with a := putX d.a o.dst (sh (base + i)), as := d.as ++ [(i, e)] }
   | none => none
  else if isQ P o.op then
   match xop P okF (addAs d.V base (fun x => (ms.getD i 0).testBit x && !d.ab.testBit x) d.as) (evalR d.V d.a (o.looksAt ops)) o with
   | some (.val v, _) => some { d with a := putX d.a o.dst v, qs := d.qs ++ [⟨i, o, d.a, v⟩] }
   | _ => none
  else if d.ws.all (fun w => (ms.getD i 0).testBit w) then
   match xrun P okF call (addAs d.V base (fun x => (ms.getD i 0).testBit x && !d.ab.testBit x) d.as) (evalR d.V d.a (o.looksAt ops)) o with
   | some (v, V') => some { a := putX d.a o.dst v, V := V', hist := d.hist ++ [(V', d.ab ||| ms.getD i 0)], ws := d.ws ++ [i], as := d.as, ab := d.ab ||| ms.getD i 0, qs := d.qs }
   | none => none
  else none
def runD : List Oper → Nat → Dr → Option Dr
 | [], _, d => some d
 | o :: r, i, d => match stepD P okF call ops ms base i o d with
  | some d' => runD r (i + 1) d'
  | none => none
def mayAt (ws : List Nat) (i j : Nat) : Bool := (ws.drop j).all (fun w => !(ms.getD i 0).testBit w) && (ws.take j).all (fun w => !(ms.getD w 0).testBit i)
def checkQ (d : Dr) (q : Qr) : List (St × Nat) → Nat → Bool
 | [], _ => true
 | (V, ab) :: r, j =>
  (if mayAt ms d.ws q.i j then
   match xop P okF (addAs V base (fun x => (ms.getD q.i 0).testBit x && !ab.testBit x) d.as) (evalR V q.a (q.o.looksAt ops)) q.o with
   | some (.val u, _) => same u q.v
   | _ => false
  else true) && checkQ d q r (j + 1)
def xdraw (a : XAct) (S : St) : Option (XAct × St) :=
 let V0 : St := { S with next := S.next + ops.toList.length }
 match runD P okF call ops (masks ops.toList) S.next ops.toList 0 { a := a, V := V0, hist := [(V0, 0)], ws := [], as := [], ab := 0, qs := [] } with
 | some d => if d.ws.isEmpty || d.qs.all (fun q => checkQ P okF ops (masks ops.toList) S.next d q d.hist 0) then some (d.a, addAs d.V S.next (fun x => !d.ab.testBit x) d.as) else none
 | none => none
end
def dsts (l : List Oper) : List (Option Tmp) := l.map (·.dst)
def slotOk (ops : Array Oper) (ms : List Nat) (i : Nat) (t : Tmp) : List (Option Tmp) → Nat → Bool
 | [], _ => true
 | d :: r, w => (if d = some t then (if w < i then (ms.getD i 0).testBit w else w == i || (ms.getD w 0).testBit i) else true) && slotOk ops ms i t r (w + 1)
def onceOk : List (Option Tmp) → Bool
 | [] => true
 | none :: r => onceOk r
 | some t :: r => !r.contains (some t) && onceOk r
def looksOk (ops : Array Oper) (ms : List Nat) (ds : List (Option Tmp)) : List Oper → Nat → Bool
 | [], _ => true
 | o :: r, i => (o.looksAt ops).all (fun t => slotOk ops ms i t ds 0) && looksOk ops ms ds r (i + 1)
def edgesOk : List Oper → Nat → Bool
 | [], _ => true
 | o :: r, i => o.after.toList.all (fun e => !Region.binds .any e || decide (e.on < i)) && edgesOk r (i + 1)
def drawOk (ops : Array Oper) : Bool :=
 let ms := masks ops.toList
 onceOk (dsts ops.toList) && looksOk ops ms (dsts ops.toList) ops.toList 0 && edgesOk ops.toList 0
def goodCode : Code → Bool
 | .region _ ops true => drawOk ops
 | .seq a b => goodCode a && goodCode b
 | .cond _ a b => goodCode a && goodCode b
 | .block _ c => goodCode c
 | .loop c => goodCode c
 | _ => true
theorem plain_eq {α : Place} {v v' : Value} (h : VRel α v v') (hp : plain1 v = true) : v' = v := by
 cases h <;> first | rfl | (simp [plain1] at hp; done) | skip
 rename_i fn a b a' b' ha hb hra hrb
 simp only [plain1, Bool.and_eq_true, List.isEmpty_iff] at hp
 obtain ⟨h1, h2⟩ := hp
 have e1 : a' = a := by
  have : a = #[] := by simpa using h1
  subst this
  exact Array.eq_empty_of_size_eq_zero (by simpa using ha.symm)
 have e2 : b' = b := by
  have : b = #[] := by simpa using h2
  subst this
  exact Array.eq_empty_of_size_eq_zero (by simpa using hb.symm)
 rw [e1, e2]
theorem plain1_one {v : Value} (h : plain1 v = true) : one v = true := by cases v <;> first | rfl | simp [plain1] at h
theorem plain1_all {l : List Value} (h : l.all plain1 = true) : l.all one = true := by
 rw [List.all_eq_true] at h ⊢
 exact fun v hv => plain1_one (h v hv)
theorem plain1_zerosL {z : List Value} (h : z.all plain1 = true) : ∀ n, (zerosL z n).all plain1 = true
 | 0 => rfl
 | n + 1 => by simp only [zerosL, List.all_append, h, plain1_zerosL h n, Bool.and_self]
section
variable {α : Place} {S : St} {w : World} {P : Program} {okF : FuncId → Bool} {ρ : Operand → Option Value} {ρ' : Operand → Value}
def St.none : St := { heap := .leaf, next := 0, glob := 0 }
def Place.none : Place := fun _ => Option.none
theorem Rel.none (w : World) : Rel Place.none St.none w :=
 ⟨fun i e h => (by simp [St.none, PT.get] at h), fun i j e f l m _ h => (by simp [St.none, PT.get] at h), fun i l h => (by cases h), fun i l h => (by cases h), fun i l _ h => (by cases h), Nat.le_refl _⟩
structure Made (P : Program) (w : World) (e : Ent) (sh : Nat → Value) (x : Sem Go.Next) : Prop where
 out : ∃ (w' : World) (v' : Value) (l : Loc), x.run P w = .ok (.value v') w' ∧ w.heap.size ≤ l.blk ∧ l.blk < w'.heap.size ∧ (∀ b, b < w.heap.size → w'.heap[b]? = w.heap[b]?) ∧ w.heap.size ≤ w'.heap.size ∧ Alike0 w w' ∧
  (∀ β, EntRel β w' l e) ∧ ∀ (β : Place) i, β i = some l → VRel β (sh i) v'
theorem plain_ent {β : Place} {w' : World} {l : Loc} {cs : List Value} {esz : Nat} {ro : Bool} (h : EntRel β w' l (.row cs esz ro)) (hp : cs.all plain1 = true) (γ : Place) : EntRel γ w' l (.row cs esz ro) := by
 obtain ⟨h0, c, t, fr, h1, h2, h3, h4, h5⟩ := h
 refine ⟨h0, c, t, fr, h1, h2, h3, h4, fun i v hv => ?_⟩
 obtain ⟨v', g1, g2⟩ := h5 i v hv
 have hpv := List.all_eq_true.1 hp v (List.mem_of_getElem? hv)
 have := plain_eq g2 hpv
 subst this
 exact ⟨v', g1, plain1_rel γ v' hpv⟩
theorem xal_sound {o : Oper} {e : Ent} {sh : Nat → Value} (hρ : ∀ x v, ρ x = some v → VRel α v (ρ' x)) (hx : xal P ρ o.op = some (e, sh)) : e.ro = false ∧ Made P w e sh (execOp ρ' o) := by
 unfold xal at hx
 split at hx
 ·rename_i t ho
  split at hx
  ·rename_i z hz
   split at hx
   ·rename_i hp
    cases hx
    refine ⟨rfl, ⟨?_⟩⟩
    have hrow : St.none.row z.cells.toList (eszT P t) = some (St.none.new (.row z.cells.toList (eszT P t) false)) := by
     unfold St.row; rw [if_pos (plain1_all hp)]
    have hnv : xnewVar P St.none t z = some (.pointer (some ⟨0, 0, none⟩), St.none.new (.row z.cells.toList (eszT P t) false)) := by
     unfold xnewVar; rw [hrow]; rfl
    obtain ⟨β, w', h1, h2, h3⟩ := (Rel.none w).newRow (P := P) hrow (zero_rel hz _).cells t
    obtain ⟨l, hl, hent⟩ := h2.rel.ent 0 (.row z.cells.toList (eszT P t) false) (by simp [St.new, St.none, PT.set, PT.setF, PT.get])
    have h3' : β 0 = some _ := h3
    rw [hl] at h3'
    cases h3'
    refine ⟨w', .pointer (some ⟨w.heap.size, 0, none⟩), _, ?_, Nat.le_refl _, h2.rel.size 0 _ hl, fun b hb => h2.frame.block b hb (fun i e l h => by simp [St.none, PT.get] at h), h2.frame.size, ⟨h2.frame.os, h2.frame.tape, h2.frame.output⟩, fun γ => plain_ent hent hp γ, fun γ i hi => ?_⟩
    ·unfold execOp
     simp only [ho]
     rw [Sem.run_bind]
     simp only [Instr.alloc, Sem.run_bind, run_zero hz, Result.andThen]
     unfold newVar
     have : (newRow t z.cells).run P w = .ok ⟨w.heap.size, 0, none⟩ w' := by simpa using h1
     rw [this]
     rfl
    ·have := VRel.ptr (α := γ) i 0 _ hi
     simpa using this
   ·cases hx
  ·cases hx
 ·rename_i t ho
  cases hx
  refine ⟨rfl, ⟨{ w with heap := w.heap.push (.map #[] 0) }, .map (some w.heap.size), ⟨w.heap.size, 0, 0, 0⟩, ?_, Nat.le_refl _, by simp, fun b hb => by simp only [Array.getElem?_push]; rw [if_neg (by omega)], by simp, ⟨rfl, rfl, rfl⟩, fun β => ⟨rfl, #[], by simp, rfl, fun i a b ha => by simp at ha⟩, fun β i hi => .map i _ hi⟩⟩
  unfold execOp
  simp only [ho]
  rfl
 ·rename_i t l c ho
  split at hx
  ·rename_i k len k' cap hl hc
   split at hx
   ·rename_i elem hu
    split at hx
    ·rename_i size bytes z hs hb hz
     split at hx
     ·rename_i hcond
      obtain ⟨q1, q2, q3, q4, q5, q6, q7, hp⟩ := hcond
      cases hx
      refine ⟨rfl, ⟨?_⟩⟩
      have e1 : ρ' l = .int k len := by
       have := hρ _ _ hl
       generalize ρ' l = y at this; cases this; rfl
      have e2 : ρ' c = .int k' cap := by
       have := hρ _ _ hc
       generalize ρ' c = y at this; cases this; rfl
      have hpz := plain1_zerosL hp cap.toNat
      have hrow : St.none.row (zerosL z.cells.toList cap.toNat) size = some (St.none.new (.row (zerosL z.cells.toList cap.toNat) size false)) := by
       unfold St.row; rw [if_pos (plain1_all hpz)]
      have hms : xmakeSlice P St.none t (.int k len) (.int k' cap) = some (.slice (some ⟨0, 0, none⟩) len.toNat cap.toNat, St.none.new (.row (zerosL z.cells.toList cap.toNat) size false)) := by
       unfold xmakeSlice
       simp only [hu, hs, hb, hz]
       rw [if_pos ⟨q1, q2, q3, q4, q5, q6, q7⟩, hrow]
       rfl
      obtain ⟨β, w', v', h1, h2, h3⟩ := xmakeSlice_sound (P := P) (Rel.none w) hms
      obtain ⟨lc, hlc, hent⟩ := h2.rel.ent 0 (.row (zerosL z.cells.toList cap.toNat) size false) (by simp [St.new, St.none, PT.set, PT.setF, PT.get])
      have hkept : w.heap.size ≤ lc.blk := by
       rcases h2.kept 0 _ lc (by simp [St.new, St.none, PT.set, PT.setF, PT.get]; rfl) rfl hlc with h | ⟨i, e, l, h, _⟩
       ·exact h
       ·simp [St.none, PT.get] at h
      refine ⟨w', v', lc, ?_, hkept, h2.rel.size 0 _ hlc, fun b hb => h2.frame.block b hb (fun i e l h => by simp [St.none, PT.get] at h), h2.frame.size, ⟨h2.frame.os, h2.frame.tape, h2.frame.output⟩, fun γ => plain_ent hent hpz γ, fun γ i hi => ?_⟩
      ·unfold execOp
       simp only [ho]
       rw [Sem.run_bind, e1, e2, h1]
       rfl
      ·rcases slice_inv h3 with ⟨l', cap', hl', g1, g2, g3, rfl⟩ | ⟨a', ea, eb, rfl⟩
       ·rw [hlc] at hl'; cases hl'
        exact .slice i 0 _ _ _ lc hi g1 g2 g3
       ·rw [ea, eb]; exact .sliceEnd _ _
     ·cases hx
    ·cases hx
   ·cases hx
  ·cases hx
 ·cases hx
end
theorem same1_eq {a b : Value} (h : same1 a b = true) : a = b := by
 have bytes : ∀ x y : ByteArray, beqBytes x.data.toList y.data.toList = true → x = y := by
  intro x y hxy
  rw [beqBytes_eq] at hxy
  simp only [beq_iff_eq] at hxy
  exact ByteArray.ext (Array.ext' hxy)
 unfold same1 at h
 split at h
 all_goals first
  | (simp only [Bool.and_eq_true, decide_eq_true_eq, beq_iff_eq] at h; obtain ⟨⟨rfl, rfl⟩, rfl⟩ := h; rfl)
  | (simp only [Bool.and_eq_true, decide_eq_true_eq] at h; obtain ⟨h1, h2⟩ := h; subst h1; rw [bytes _ _ h2])
  | (simp only [Bool.and_eq_true, decide_eq_true_eq, beq_iff_eq] at h; obtain ⟨rfl, rfl⟩ := h; rfl)
  | (simp only [decide_eq_true_eq, beq_iff_eq] at h; subst h; rfl)
  | rfl
  | (rw [bytes _ _ h])
  | (cases h; done)
theorem sameL_eq : ∀ {a b : List Value}, sameL a b = true → a = b
 | [], [], _ => rfl
 | [], _ :: _, h => by simp [sameL] at h
 | _ :: _, [], h => by simp [sameL] at h
 | x :: a, y :: b, h => by
  simp only [sameL, Bool.and_eq_true] at h
  rw [same1_eq h.1, sameL_eq h.2]
theorem sameA_eq {a b : Value} (h : sameA a b = true) : a = b := by
 unfold sameA at h
 split at h
 ·rw [Array.ext' (sameL_eq h)]
 ·exact same1_eq h
theorem sameM_eq : ∀ {a b : List Value}, sameM a b = true → a = b
 | [], [], _ => rfl
 | [], _ :: _, h => by simp [sameM] at h
 | _ :: _, [], h => by simp [sameM] at h
 | x :: a, y :: b, h => by
  simp only [sameM, Bool.and_eq_true] at h
  rw [sameA_eq h.1, sameM_eq h.2]
theorem same_eq {a b : Value} (h : same a b = true) : a = b := by
 unfold same at h
 split at h
 ·rw [Array.ext' (sameL_eq h)]
 ·rw [Array.ext' (sameM_eq h)]
 ·simp only [Bool.and_eq_true, decide_eq_true_eq] at h
  obtain ⟨⟨rfl, h2⟩, h3⟩ := h
  rw [Array.ext' (sameL_eq h2), Array.ext' (sameL_eq h3)]
 ·exact same1_eq h
section
variable {P : Program} {okF : FuncId → Bool} {call : XCall} {ops : Array Oper} {ms : List Nat} {base : Nat}
inductive StepK (P : Program) (okF : FuncId → Bool) (call : XCall) (ops : Array Oper) (ms : List Nat) (base : Nat) (i : Nat) (o : Oper) (d : Dr) : Dr → Prop where
 | skip (hw : wantedX ops d.a o = some false) : StepK P okF call ops ms base i o d { d with a := putX d.a o.dst undefX }
 | alloc (hw : wantedX ops d.a o = some true) (hA : isA o.op = true) (e : Ent) (sh : Nat → Value) (hx : xal P (evalR d.V d.a (o.looksAt ops)) o.op = some (e, sh)) :
  StepK P okF call ops ms base i o d { d with a := putX d.a o.dst (sh (base + i)), as := d.as ++ [(i, e)] }
 | quiet (hw : wantedX ops d.a o = some true) (hA : isA o.op = false) (hQ : isQ P o.op = true) (v : Value) (S' : St)
  (hx : xop P okF (addAs d.V base (fun x => (ms.getD i 0).testBit x && !d.ab.testBit x) d.as) (evalR d.V d.a (o.looksAt ops)) o = some (.val v, S')) :
  StepK P okF call ops ms base i o d { d with a := putX d.a o.dst v, qs := d.qs ++ [⟨i, o, d.a, v⟩] }
 | write (hw : wantedX ops d.a o = some true) (hA : isA o.op = false) (hQ : isQ P o.op = false) (hall : ∀ x ∈ d.ws, (ms.getD i 0).testBit x = true) (v : Value) (V' : St)
  (hx : xrun P okF call (addAs d.V base (fun x => (ms.getD i 0).testBit x && !d.ab.testBit x) d.as) (evalR d.V d.a (o.looksAt ops)) o = some (v, V')) :
  StepK P okF call ops ms base i o d { a := putX d.a o.dst v, V := V', hist := d.hist ++ [(V', d.ab ||| ms.getD i 0)], ws := d.ws ++ [i], as := d.as, ab := d.ab ||| ms.getD i 0, qs := d.qs }
theorem stepD_cases {i : Nat} {o : Oper} {d d' : Dr} (h : stepD P okF call ops ms base i o d = some d') : StepK P okF call ops ms base i o d d' := by
 unfold stepD at h
 split at h
 ·cases h
 ·rename_i hw; cases h; exact .skip hw
 ·rename_i hw
  split at h
  ·rename_i hA
   split at h
   ·rename_i e sh hx; cases h; exact .alloc hw hA e sh hx
   ·cases h
  ·rename_i hA
   have hA : isA o.op = false := by simpa using hA
   split at h
   ·rename_i hQ
    split at h
    ·rename_i v S' hx; cases h; exact .quiet hw hA hQ v S' hx
    ·cases h
   ·rename_i hQ
    have hQ : isQ P o.op = false := by simpa using hQ
    split at h
    ·rename_i hall
     split at h
     ·rename_i v V' hx; cases h
      exact .write hw hA hQ (by simpa using hall) v V' hx
     ·cases h
    ·cases h
theorem runD_trace : ∀ (l : List Oper) (i : Nat) (d d' : Dr), runD P okF call ops ms base l i d = some d' →
 ∃ f : Nat → Dr, f 0 = d ∧ f l.length = d' ∧ ∀ k o, l[k]? = some o → StepK P okF call ops ms base (i + k) o (f k) (f (k + 1))
 | [], i, d, d', h => by
  simp only [runD] at h; cases h
  exact ⟨fun _ => d, rfl, rfl, fun k o hk => by simp at hk⟩
 | p :: l, i, d, d', h => by
  simp only [runD] at h
  split at h
  ·rename_i d1 h1
   obtain ⟨f, e1, e2, e3⟩ := runD_trace l (i + 1) d1 d' h
   refine ⟨fun k => match k with | 0 => d | k + 1 => f k, rfl, by simpa using e2, fun k o hk => ?_⟩
   cases k with
   | zero =>
    simp only [List.getElem?_cons_zero, Option.some.injEq] at hk
    subst hk
    simp only [Nat.add_zero, e1]
    exact stepD_cases h1
   | succ k =>
    have := e3 k o (by simpa using hk)
    rw [show i + (k + 1) = i + 1 + k by omega]
    exact this
  ·cases h
structure Walk (P : Program) (okF : FuncId → Bool) (call : XCall) (ops : Array Oper) (base : Nat) (f : Nat → Dr) (a0 : XAct) (V0 : St) : Prop where
 start : f 0 = { a := a0, V := V0, hist := [(V0, 0)], ws := [], as := [], ab := 0, qs := [] }
 step : ∀ k o, ops.toList[k]? = some o → StepK P okF call ops (masks ops.toList) base k o (f k) (f (k + 1))
variable {f : Nat → Dr} {a0 : XAct} {V0 : St}
theorem op_at {k : Nat} (h : k < ops.toList.length) : ∃ o, ops.toList[k]? = some o := ⟨_, List.getElem?_eq_getElem h⟩
theorem putX_length (a : XAct) (dst : Option Tmp) (v : Value) : (putX a dst v).length = List.length a := by cases dst <;> simp [putX]
theorem StepK.act {i : Nat} {o : Oper} {d d' : Dr} (h : StepK P okF call ops ms base i o d d') : ∃ v, d'.a = putX d.a o.dst v := by cases h <;> exact ⟨_, rfl⟩
theorem Walk.length (W : Walk P okF call ops base f a0 V0) : ∀ k, k ≤ ops.toList.length → (f k).a.length = List.length a0 := by
 intro k
 induction k with
 | zero => intro _; rw [W.start]
 | succ k ih =>
  intro hk
  obtain ⟨o, ho⟩ := op_at (ops := ops) (k := k) (by omega)
  obtain ⟨v, hv⟩ := (W.step k o ho).act
  rw [hv, putX_length]
  exact ih (by omega)
theorem Walk.stay (W : Walk P okF call ops base f a0 V0) (t : Tmp) (k : Nat) : ∀ k', k ≤ k' → k' ≤ ops.toList.length → (∀ m o, k ≤ m → m < k' → ops.toList[m]? = some o → o.dst ≠ some t) → slot (f k').a t = slot (f k).a t := by
 intro k'
 induction k' with
 | zero => intro h _ _; rw [Nat.le_zero.1 h]
 | succ k' ih =>
  intro hk hn hno
  by_cases he : k = k' + 1
  ·rw [he]
  ·obtain ⟨o, ho⟩ := op_at (ops := ops) (k := k') (by omega)
   obtain ⟨v, hv⟩ := (W.step k' o ho).act
   rw [hv, ← ih (by omega) (by omega) (fun m o h1 h2 => hno m o h1 (by omega))]
   have hd := hno k' o (by omega) (by omega) ho
   cases hdst : o.dst with
   | none => rfl
   | some d =>
    simp only [putX, slot_set]
    rw [if_neg]
    rintro ⟨rfl, _⟩
    exact hd hdst
theorem onceOk_uniq : ∀ (l : List (Option Tmp)) (t : Tmp) (m m' : Nat), onceOk l = true → l[m]? = some (some t) → l[m']? = some (some t) → m = m'
 | [], t, m, m', _, h, _ => by simp at h
 | none :: r, t, m, m', ho, h, h' => by
  cases m with
  | zero => simp at h
  | succ m => cases m' with
   | zero => simp at h'
   | succ m' => rw [onceOk_uniq r t m m' ho (by simpa using h) (by simpa using h')]
 | some u :: r, t, m, m', ho, h, h' => by
  simp only [onceOk, Bool.and_eq_true, Bool.not_eq_true'] at ho
  have hno : ∀ k : Nat, r[k]? = some (some u) → False := by
   intro k hk
   have := List.mem_of_getElem? hk
   have hc := ho.1
   rw [← Bool.not_eq_true, List.contains_iff_mem] at hc
   exact hc this
  cases m with
  | zero =>
   simp only [List.getElem?_cons_zero, Option.some.injEq] at h
   subst h
   cases m' with
   | zero => rfl
   | succ m' => exact (hno m' (by simpa using h')).elim
  | succ m => cases m' with
   | zero =>
    simp only [List.getElem?_cons_zero, Option.some.injEq] at h'
    subst h'
    exact (hno m (by simpa using h)).elim
   | succ m' => rw [onceOk_uniq r t m m' ho.2 (by simpa using h) (by simpa using h')]
theorem slotOk_at : ∀ (l : List (Option Tmp)) (i : Nat) (t : Tmp) (s w : Nat), slotOk ops ms i t l s = true → l[w]? = some (some t) →
 (s + w < i → (ms.getD i 0).testBit (s + w) = true) ∧ (i ≤ s + w → s + w = i ∨ (ms.getD (s + w) 0).testBit i = true)
 | [], i, t, s, w, _, h => by simp at h
 | d :: r, i, t, s, w, hs, h => by
  simp only [slotOk, Bool.and_eq_true] at hs
  cases w with
  | zero =>
   simp only [List.getElem?_cons_zero, Option.some.injEq] at h
   have h1 := hs.1
   rw [if_pos h] at h1
   simp only [Nat.add_zero]
   constructor
   ·intro hlt; rw [if_pos hlt] at h1; exact h1
   ·intro hle
    rw [if_neg (by omega)] at h1
    simpa using h1
  | succ w =>
   have ih := slotOk_at r i t (s + 1) w hs.2 (by simpa using h)
   rw [show s + (w + 1) = s + 1 + w by omega]
   exact ih
theorem looksOk_at (ds : List (Option Tmp)) : ∀ (l : List Oper) (s k : Nat) (o : Oper), looksOk ops ms ds l s = true → l[k]? = some o → ∀ t ∈ o.looksAt ops, slotOk ops ms (s + k) t ds 0 = true
 | [], s, k, o, _, h => by simp at h
 | p :: r, s, k, o, hl, h => by
  simp only [looksOk, Bool.and_eq_true, List.all_eq_true] at hl
  cases k with
  | zero => simp only [List.getElem?_cons_zero, Option.some.injEq] at h; subst h; exact fun t ht => hl.1 t ht
  | succ k =>
   have := looksOk_at ds r (s + 1) k o hl.2 (by simpa using h)
   rw [show s + (k + 1) = s + 1 + k by omega]
   exact this
theorem edgesOk_at : ∀ (l : List Oper) (s k : Nat) (o : Oper), edgesOk l s = true → l[k]? = some o → ∀ e ∈ o.after.toList, Region.binds .any e = true → e.on < s + k
 | [], s, k, o, _, h => by simp at h
 | p :: r, s, k, o, hl, h => by
  simp only [edgesOk, Bool.and_eq_true, List.all_eq_true] at hl
  cases k with
  | zero =>
   simp only [List.getElem?_cons_zero, Option.some.injEq] at h; subst h
   intro e he hb
   have := hl.1 e he
   simpa [hb] using this
  | succ k =>
   have := edgesOk_at r (s + 1) k o hl.2 (by simpa using h)
   rw [show s + (k + 1) = s + 1 + k by omega]
   exact this
theorem mask_lt (he : edgesOk ops.toList 0 = true) : ∀ i, i < ops.toList.length → ∀ w, ((masks ops.toList).getD i 0).testBit w = true → w < i := by
 intro i
 induction i using Nat.strongRecOn with
 | _ i ih =>
  intro hi w hw
  obtain ⟨o, ho⟩ := op_at (ops := ops) hi
  have hg := masksF_get ops.toList [] i o ho
  simp only [List.length_nil, Nat.zero_add] at hg
  unfold masks at hw
  rw [hg] at hw
  obtain ⟨e, hem, hb, h⟩ := edgeMask_bit _ _ _ hw
  have hlt := edgesOk_at ops.toList 0 i o he ho e hem hb
  simp only [Nat.zero_add] at hlt
  rcases h with rfl | h
  ·exact hlt
  ·have hgd : ((masksF ops.toList []).take i).getD e.on 0 = (masksF ops.toList []).getD e.on 0 := by
    simp only [List.getD, List.getElem?_take, if_pos hlt]
   rw [hgd] at h
   have := ih e.on hlt (by omega) w h
   omega
end
section
variable {P : Program} {okF : FuncId → Bool} {call : XCall} {ops : Array Oper} {base : Nat} {f : Nat → Dr} {a0 : XAct} {V0 : St}
def IsWrite (P : Program) (ops : Array Oper) (f : Nat → Dr) (i : Nat) : Prop := ∃ o, ops.toList[i]? = some o ∧ wantedX ops (f i).a o = some true ∧ isA o.op = false ∧ isQ P o.op = false
def IsMade (P : Program) (ops : Array Oper) (f : Nat → Dr) (i : Nat) (e : Ent) : Prop :=
 ∃ o sh, ops.toList[i]? = some o ∧ wantedX ops (f i).a o = some true ∧ isA o.op = true ∧ xal P (evalR (f i).V (f i).a (o.looksAt ops)) o.op = some (e, sh)
structure Facts (P : Program) (ops : Array Oper) (base : Nat) (f : Nat → Dr) (V0 : St) (k : Nat) : Prop where
 ws : ∀ (j x : Nat), (f k).ws[j]? = some x → x < k ∧ IsWrite P ops f x ∧ (f x).ws.length = j
 as : ∀ x e, (x, e) ∈ (f k).as → x < k ∧ IsMade P ops f x e
 hlen : (f k).hist.length = (f k).ws.length + 1
 hlast : (f k).hist[(f k).ws.length]? = some ((f k).V, (f k).ab)
 hab : ∀ (j : Nat) p, (f k).hist[j]? = some p → ∀ x, p.2.testBit x = true → ∃ (j' y : Nat), j' < j ∧ (f k).ws[j']? = some y ∧ ((masks ops.toList).getD y 0).testBit x = true
 order : ∀ (j j' x y : Nat), j < j' → (f k).ws[j]? = some x → (f k).ws[j']? = some y → ((masks ops.toList).getD y 0).testBit x = true
theorem Walk.facts (W : Walk P okF call ops base f a0 V0) : ∀ k, k ≤ ops.toList.length → Facts P ops base f V0 k := by
 intro k
 induction k with
 | zero =>
  intro _
  refine ⟨fun j x h => ?_, fun x e h => ?_, ?_, ?_, fun j p h x hx => ?_, fun j j' x y _ h _ => ?_⟩
  ·rw [W.start] at h; simp at h
  ·rw [W.start] at h; simp at h
  ·rw [W.start]; rfl
  ·rw [W.start]; rfl
  ·rw [W.start] at h
   cases j with
   | zero => simp at h; subst h; simp at hx
   | succ j => simp at h
  ·rw [W.start] at h; simp at h
 | succ k ih =>
  intro hk
  have F := ih (by omega)
  obtain ⟨o, ho⟩ := op_at (ops := ops) (k := k) (by omega)
  have hs := W.step k o ho
  have same : (f (k + 1)).ws = (f k).ws → (f (k + 1)).hist = (f k).hist → (f (k + 1)).V = (f k).V → (f (k + 1)).ab = (f k).ab →
   (∀ x e, (x, e) ∈ (f (k + 1)).as → x < k + 1 ∧ IsMade P ops f x e) → Facts P ops base f V0 (k + 1) := by
   intro h1 h2 h3 h4 h5
   refine ⟨fun j x h => ?_, h5, by rw [h2, h1]; exact F.hlen, by rw [h2, h1, h3, h4]; exact F.hlast, fun j p h x hx => ?_, fun j j' x y hj h h' => ?_⟩
   ·rw [h1] at h; obtain ⟨a, b, c⟩ := F.ws j x h; exact ⟨by omega, b, c⟩
   ·rw [h2] at h; rw [h1]; exact F.hab j p h x hx
   ·rw [h1] at h h'; exact F.order j j' x y hj h h'
  have old : ∀ x e, (x, e) ∈ (f k).as → x < k + 1 ∧ IsMade P ops f x e := fun x e h => let ⟨a, b⟩ := F.as x e h; ⟨by omega, b⟩
  generalize hd : f (k + 1) = d' at hs same ⊢
  cases hs with
  | skip hw => exact same rfl rfl rfl rfl old
  | alloc hw hA e sh hx =>
   refine same rfl rfl rfl rfl (fun x g h => ?_)
   simp only [List.mem_append, List.mem_singleton] at h
   rcases h with h | h
   ·exact old x g h
   ·cases h
    exact ⟨by omega, o, sh, ho, hw, hA, hx⟩
  | quiet hw hA hQ v S' hx => exact same rfl rfl rfl rfl old
  | write hw hA hQ hall v V' hx =>
   have hget : ∀ (j x : Nat), ((f k).ws ++ [k])[j]? = some x → (j < (f k).ws.length ∧ (f k).ws[j]? = some x) ∨ (j = (f k).ws.length ∧ x = k) := by
    intro j x h
    by_cases hj : j < (f k).ws.length
    ·rw [List.getElem?_append_left hj] at h; exact .inl ⟨hj, h⟩
    ·rw [List.getElem?_append_right (by omega)] at h
     cases hjj : j - (f k).ws.length with
     | zero => rw [hjj] at h; simp at h; exact .inr ⟨by omega, h.symm⟩
     | succ n => rw [hjj] at h; simp at h
   refine ⟨fun j x h => ?_, fun x e h => ?_, ?_, ?_, fun j p h x hx' => ?_, fun j j' x y hj h h' => ?_⟩
   ·rw [hd] at h
    rcases hget j x h with ⟨_, h⟩ | ⟨rfl, rfl⟩
    ·obtain ⟨a, b, c⟩ := F.ws j x h; exact ⟨by omega, b, c⟩
    ·exact ⟨by omega, ⟨o, ho, hw, hA, hQ⟩, rfl⟩
   ·rw [hd] at h
    exact old x e h
   ·rw [hd]; simp [F.hlen]
   ·rw [hd]; simp only [List.length_append, List.length_singleton]
    rw [List.getElem?_append_right (by rw [F.hlen]; omega), F.hlen]
    simp
   ·rw [hd] at h ⊢
    simp only at h ⊢
    have hlen := F.hlen
    by_cases hj : j < (f k).hist.length
    ·rw [List.getElem?_append_left hj] at h
     obtain ⟨j', y, h1, h2, h3⟩ := F.hab j p h x hx'
     refine ⟨j', y, h1, ?_, h3⟩
     rw [List.getElem?_append_left (List.getElem?_eq_some_iff.1 h2).1]; exact h2
    ·rw [List.getElem?_append_right (by omega)] at h
     have hjj : j = (f k).ws.length + 1 := by
      cases hz : j - (f k).hist.length with
      | zero => omega
      | succ n => rw [hz] at h; simp at h
     subst hjj
     rw [hlen] at h
     simp at h
     subst h
     simp only [Nat.testBit_or, Bool.or_eq_true] at hx'
     rcases hx' with hx' | hx'
     ·obtain ⟨j', y, h1, h2, h3⟩ := F.hab _ _ F.hlast x hx'
      refine ⟨j', y, by omega, ?_, h3⟩
      rw [List.getElem?_append_left (List.getElem?_eq_some_iff.1 h2).1]; exact h2
     ·exact ⟨(f k).ws.length, k, by omega, by simp, hx'⟩
   ·rw [hd] at h h'
    rcases hget j' y h' with ⟨h1, h2⟩ | ⟨h1, h2⟩
    ·rcases hget j x h with ⟨g1, g2⟩ | ⟨g1, g2⟩
     ·exact F.order j j' x y hj g2 h2
     ·omega
    ·subst h2
     rcases hget j x h with ⟨g1, g2⟩ | ⟨g1, g2⟩
     ·exact hall x (List.mem_of_getElem? g2)
     ·omega
structure Grows (f : Nat → Dr) (k k' : Nat) : Prop where
 ws : ∀ (j x : Nat), (f k).ws[j]? = some x → (f k').ws[j]? = some x
 hist : ∀ (j : Nat) p, (f k).hist[j]? = some p → (f k').hist[j]? = some p
 as : ∀ p, p ∈ (f k).as → p ∈ (f k').as
 asBack : ∀ x e, (x, e) ∈ (f k').as → x < k → (x, e) ∈ (f k).as
 qs : ∀ q, q ∈ (f k).qs → q ∈ (f k').qs
theorem Walk.grows (W : Walk P okF call ops base f a0 V0) (k : Nat) : ∀ k', k ≤ k' → k' ≤ ops.toList.length → Grows f k k' := by
 intro k'
 induction k' with
 | zero => intro h _; rw [Nat.le_zero.1 h]; exact ⟨fun _ _ h => h, fun _ _ h => h, fun _ h => h, fun _ _ h _ => h, fun _ h => h⟩
 | succ k' ih =>
  intro hk hn
  by_cases he : k = k' + 1
  ·rw [he]; exact ⟨fun _ _ h => h, fun _ _ h => h, fun _ h => h, fun _ _ h _ => h, fun _ h => h⟩
  ·have G := ih (by omega) (by omega)
   obtain ⟨o, ho⟩ := op_at (ops := ops) (k := k') (by omega)
   have hs := W.step k' o ho
   have app : ∀ {β : Type} (l r : List β) (j : Nat) (x : β), l[j]? = some x → (l ++ r)[j]? = some x := by
    intro β l r j x h
    rw [List.getElem?_append_left (List.getElem?_eq_some_iff.1 h).1]; exact h
   generalize hd : f (k' + 1) = d' at hs
   have hkk : k ≤ k' := by omega
   cases hs with
   | skip hw => exact ⟨fun j x h => by rw [hd]; exact G.ws j x h, fun j p h => by rw [hd]; exact G.hist j p h, fun p h => by rw [hd]; exact G.as p h, fun x e h hx => G.asBack x e (by rw [hd] at h; exact h) hx, fun q h => by rw [hd]; exact G.qs q h⟩
   | alloc hw hA e sh hx =>
    refine ⟨fun j x h => by rw [hd]; exact G.ws j x h, fun j p h => by rw [hd]; exact G.hist j p h, fun p h => by rw [hd]; simp [G.as p h], fun x g h hlt => ?_, fun q h => by rw [hd]; exact G.qs q h⟩
    rw [hd] at h
    simp only [List.mem_append, List.mem_singleton] at h
    rcases h with h | h
    ·exact G.asBack x g h hlt
    ·cases h; omega
   | quiet hw hA hQ v S' hx => exact ⟨fun j x h => by rw [hd]; exact G.ws j x h, fun j p h => by rw [hd]; exact G.hist j p h, fun p h => by rw [hd]; exact G.as p h, fun x e h hx => G.asBack x e (by rw [hd] at h; exact h) hx, fun q h => by rw [hd]; simp [G.qs q h]⟩
   | write hw hA hQ hall v V' hx => exact ⟨fun j x h => by rw [hd]; exact app _ _ _ _ (G.ws j x h), fun j p h => by rw [hd]; exact app _ _ _ _ (G.hist j p h), fun p h => by rw [hd]; exact G.as p h, fun x e h hx => G.asBack x e (by rw [hd] at h; exact h) hx, fun q h => by rw [hd]; exact G.qs q h⟩
theorem Walk.uniq (W : Walk P okF call ops base f a0 V0) : Uniq (f ops.toList.length).as := by
 intro i e g h h'
 obtain ⟨_, o, sh, h1, _, _, h2⟩ := (W.facts _ (Nat.le_refl _)).as i e h
 obtain ⟨_, o', sh', g1, _, _, g2⟩ := (W.facts _ (Nat.le_refl _)).as i g h'
 rw [h1] at g1; cases g1
 rw [h2] at g2; cases g2
 rfl
theorem Walk.uniqAt (W : Walk P okF call ops base f a0 V0) {k : Nat} (hk : k ≤ ops.toList.length) : Uniq (f k).as :=
 fun i e g h h' => W.uniq i e g ((W.grows k _ hk (Nat.le_refl _)).as _ h) ((W.grows k _ hk (Nat.le_refl _)).as _ h')
theorem checkQ_at {ms : List Nat} {d : Dr} {q : Qr} : ∀ (h : List (St × Nat)) (s : Nat), checkQ P okF ops ms base d q h s = true → ∀ (j : Nat) (V : St) (ab : Nat), h[j]? = some (V, ab) → mayAt ms d.ws q.i (s + j) = true →
 ∃ S', xop P okF (addAs V base (fun x => (ms.getD q.i 0).testBit x && !ab.testBit x) d.as) (evalR V q.a (q.o.looksAt ops)) q.o = some (.val q.v, S')
 | [], s, _, j, V, ab, h, _ => by simp at h
 | (V1, ab1) :: r, s, hc, j, V, ab, h, hm => by
  simp only [checkQ, Bool.and_eq_true] at hc
  cases j with
  | zero =>
   simp only [List.getElem?_cons_zero, Option.some.injEq, Prod.mk.injEq] at h
   obtain ⟨rfl, rfl⟩ := h
   have h1 := hc.1
   rw [Nat.add_zero] at hm
   rw [if_pos hm] at h1
   split at h1
   ·rename_i u S' hx
    rw [same_eq h1] at hx
    exact ⟨S', hx⟩
   ·cases h1
  | succ j =>
   exact checkQ_at r (s + 1) hc.2 j V ab (by simpa using h) (by rw [show s + 1 + j = s + (j + 1) by omega]; exact hm)
end
section
variable {P : Program} {okF : FuncId → Bool} {call : XCall} {ops : Array Oper} {f : Nat → Dr} {a0 : XAct} {V0 S0 : St} {α0 : Place} {w0 : World} {act0 : Act}
abbrev Lst (l : Array Bool) (i : Nat) : Bool := l.getD i false
structure Inv (P : Program) (ops : Array Oper) (f : Nat → Dr) (a0 : XAct) (S0 : St) (α0 : Place) (w0 : World) (act0 : Act) (l : Array Bool) (α : Place) (w : World) (act : Act) (j : Nat) (V : St) (ab : Nat) : Prop where
 sz : l.size = ops.toList.length
 cl : ∀ i o, ops.toList[i]? = some o → Lst l i = true → ∀ e ∈ o.after.toList, Region.binds .any e = true → Lst l e.on = true
 hist : (f ops.toList.length).hist[j]? = some (V, ab)
 done : ∀ k x, (f ops.toList.length).ws[k]? = some x → (Lst l x = true ↔ k < j)
 next : Next α0 S0 w0 α (addAs V S0.next (fun x => Lst l x && !ab.testBit x) (f ops.toList.length).as) w
 free : ∀ x, x < ops.toList.length → ab.testBit x = false → V.heap.get (S0.next + x) = none
 nxt : S0.next + ops.toList.length ≤ V.next
 glob : V.glob = S0.glob
 nul : ∀ x, x < ops.toList.length → Lst l x = false → α (S0.next + x) = none
 tsz : List.length a0 = act.tmps.size
 new : ∀ m o t v, ops.toList[m]? = some o → o.dst = some t → Lst l m = true → slot (f ops.toList.length).a t = some v → ∃ v', act.tmps[t]? = some v' ∧ VRel α v v'
 old : ∀ t v, (∀ m o, ops.toList[m]? = some o → o.dst = some t → Lst l m = false) → slot a0 t = some v → ∃ v', act.tmps[t]? = some v' ∧ VRel α v v'
 df : act.defers = act0.defers
theorem lst_lt {l : Array Bool} {i : Nat} (h : Lst l i = true) : i < l.size := by
 unfold Lst at h
 rcases Nat.lt_or_ge i l.size with hi | hi
 ·exact hi
 ·rw [Array.getD_eq_getD_getElem?, Array.getElem?_eq_none hi] at h; simp at h
theorem lst_set {l : Array Bool} {i x : Nat} (hi : i < l.size) : Lst (l.setIfInBounds i true) x = (decide (x = i) || Lst l x) := by
 unfold Lst
 rw [Array.getD_eq_getD_getElem?, Array.getD_eq_getD_getElem?]
 by_cases h : i = x
 ·subst h; simp [hi]
 ·rw [Array.getElem?_setIfInBounds_ne h]; simp [Ne.symm h]
variable {l : Array Bool} {α : Place} {w : World} {act : Act} {j : Nat} {V : St} {ab : Nat}
theorem Inv.before (I : Inv P ops f a0 S0 α0 w0 act0 l α w act j V ab) (he : edgesOk ops.toList 0 = true) {i : Nat} {o : Oper} (ho : ops.toList[i]? = some o)
 (hr : ∀ e ∈ o.after.toList, Region.binds .any e = true → Lst l e.on = true) : ∀ x, ((masks ops.toList).getD i 0).testBit x = true → Lst l x = true := by
 intro x hx
 have hi := (List.getElem?_eq_some_iff.1 ho).1
 have := masks_closed ops.toList (fun y => y = i ∨ Lst l y = true)
  (fun k p hk hd e hem hb => by
   rcases hd with rfl | hd
   ·rw [ho] at hk; cases hk; exact .inr (hr e hem hb)
   ·exact .inr (I.cl k p hk hd e hem hb))
  (fun k hk => by
   rcases hk with rfl | hk
   ·exact hi
   ·have := lst_lt hk; rw [I.sz] at this; exact this) i (.inl rfl) x hx
 rcases this with rfl | h
 ·exact absurd (mask_lt he x hi x hx) (Nat.lt_irrefl _)
 ·exact h
theorem Inv.closed (I : Inv P ops f a0 S0 α0 w0 act0 l α w act j V ab) {y : Nat} (hy : Lst l y = true) : ∀ x, ((masks ops.toList).getD y 0).testBit x = true → Lst l x = true :=
 masks_closed ops.toList (fun z => Lst l z = true) I.cl (fun k hk => by have := lst_lt hk; rw [I.sz] at this; exact this) y hy
theorem Inv.sees (I : Inv P ops f a0 S0 α0 w0 act0 l α w act j V ab) (W : Walk P okF call ops S0.next f a0 V0) (hd : drawOk ops = true) {i : Nat} {o : Oper} (ho : ops.toList[i]? = some o)
 (hni : Lst l i = false) (hb : ∀ x, ((masks ops.toList).getD i 0).testBit x = true → Lst l x = true) :
 ∀ t ∈ o.looksAt ops, ∀ v, slot (f i).a t = some v → ∃ v', act.tmps[t]? = some v' ∧ VRel α v v' := by
 intro t ht v hv
 simp only [drawOk, Bool.and_eq_true] at hd
 obtain ⟨⟨h1, h2⟩, h3⟩ := hd
 have hi := (List.getElem?_eq_some_iff.1 ho).1
 have hlook := looksOk_at (dsts ops.toList) ops.toList 0 i o h2 ho t ht
 rw [Nat.zero_add] at hlook
 have hdst : ∀ (m : Nat) (p : Oper), ops.toList[m]? = some p → p.dst = some t → (dsts ops.toList)[m]? = some (some t) := by
  intro m p hm hp; simp only [dsts, List.getElem?_map, hm, Option.map_some, hp]
 by_cases hw : ∃ (m : Nat) (p : Oper), ops.toList[m]? = some p ∧ p.dst = some t
 ·obtain ⟨m, p, hm, hp⟩ := hw
  have huniq : ∀ (m' : Nat) (p' : Oper), ops.toList[m']? = some p' → p'.dst = some t → m' = m := fun m' p' hm' hp' =>
   onceOk_uniq _ t m' m h1 (hdst _ _ hm' hp') (hdst _ _ hm hp)
  obtain ⟨s1, s2⟩ := slotOk_at _ _ _ 0 m hlook (hdst _ _ hm hp)
  rw [Nat.zero_add] at s1 s2
  by_cases hmi : m < i
  ·have hml := hb m (s1 hmi)
   have hst := W.stay t i ops.toList.length (by omega) (Nat.le_refl _) (fun m' p' h5 h6 hm' hp' => by
    have := huniq m' p' hm' hp'; omega)
   rw [← hst] at hv
   exact I.new m p t v hm hp hml hv
  ·have hml : Lst l m = false := by
    rcases s2 (by omega) with e | e
    ·rw [e]; exact hni
    ·cases hlm : Lst l m with
     | false => rfl
     | true => have := I.closed hlm i e; rw [hni] at this; cases this
   have hst := W.stay t 0 i (Nat.zero_le _) (by omega) (fun m' p' h5 h6 hm' hp' => by
    have := huniq m' p' hm' hp'; omega)
   rw [hst, W.start] at hv
   exact I.old t v (fun m' p' hm' hp' => by rw [huniq m' p' hm' hp']; exact hml) hv
 ·have hno : ∀ (m : Nat) (p : Oper), ops.toList[m]? = some p → p.dst ≠ some t := fun m p hm hp => hw ⟨m, p, hm, hp⟩
  have hst := W.stay t 0 i (Nat.zero_le _) (by omega) (fun m' p' _ _ hm' hp' => hno m' p' hm' hp')
  rw [hst, W.start] at hv
  exact I.old t v (fun m p hm hp => absurd hp (hno m p hm)) hv
theorem looks_guard {o : Oper} {g : Nat} {want : Bool} {og : Oper} {d : Tmp} (h : o.guard = some (g, want)) (hg : ops[g]? = some og) (hd : og.dst = some d) : d ∈ o.looksAt ops := by
 unfold Oper.looksAt
 rw [h]
 simp [hg, hd]
theorem wanted_sees {α : Place} {a : XAct} {tmps : Array Value} {o : Oper} {b : Bool} (hs : ∀ t ∈ o.looksAt ops, ∀ v, slot a t = some v → ∃ v', tmps[t]? = some v' ∧ VRel α v v')
 (h : wantedX ops a o = some b) : Region.wanted o (yielded ops tmps) = b := by
 unfold wantedX at h
 unfold Region.wanted
 split at h
 ·rename_i hg; cases h; rw [hg]
 ·rename_i g want hg
  rw [hg]
  simp only [yielded]
  split at h
  ·rename_i oj hj
   rw [hj]
   simp only [Option.bind_some]
   split at h
   ·rename_i d hd
    rw [hd]
    simp only [Option.bind_some]
    have hmem := looks_guard (ops := ops) hg hj hd
    split at h
    ·rename_i c hsl
     cases h
     obtain ⟨v', h1, h2⟩ := hs d hmem _ hsl
     cases h2
     rw [h1]
     simp only []
     cases c <;> cases want <;> rfl
    ·rename_i u hnb hsl
     cases h
     obtain ⟨v', h1, h2⟩ := hs d hmem _ hsl
     rw [h1]
     cases h2 <;> first | (exact absurd rfl (hnb _)) | (cases want <;> rfl)
    ·cases h
   ·rename_i hd
    cases h
    rw [hd]
    cases want <;> rfl
  ·rename_i hj
   cases h
   rw [hj]
   cases want <;> rfl
theorem evalR_sees {T : St} (hT : Rel α T w) {a : XAct} {ls : List Tmp} (hs : ∀ t ∈ ls, ∀ v, slot a t = some v → ∃ v', act.tmps[t]? = some v' ∧ VRel α v v')
 {U : St} (hU : ∀ g e, g < U.glob → U.heap.get g = some e → g < T.glob ∧ T.heap.get g = some e) (x : Operand) (v : Value) (hx : evalR U a ls x = some v) : VRel α v (act.eval x) := by
 cases x with
 | tmp t =>
  simp only [evalR] at hx
  split at hx
  ·rename_i hc
   obtain ⟨v', h1, h2⟩ := hs t (List.contains_iff_mem.1 hc) v hx
   simp only [Act.eval, Array.getD_eq_getD_getElem?, h1]
   exact h2
  ·cases hx
 | const c =>
  simp only [evalR, evalX] at hx
  split at hx
  ·rename_i hp; cases hx; exact plain_rel α _ hp
  ·cases hx
 | global g =>
  simp only [evalR, evalX] at hx
  split at hx
  ·rename_i hg
   split at hx
   ·rename_i e hge
    cases hx
    obtain ⟨h1, h2⟩ := hU g e hg hge
    obtain ⟨l, hl, _⟩ := hT.ent g e h2
    obtain ⟨q1, q2⟩ := hT.glob g l h1 hl
    have := VRel.ptr (α := α) g 0 l hl
    rw [q1, q2] at this
    exact this
   ·cases hx
  ·cases hx
 | func g =>
  simp only [evalR, evalX] at hx
  cases hx
  exact .func _ _ _ _ _ rfl rfl (fun i v v' h => by simp at h) (fun i v v' h => by simp at h)
theorem Inv.part (I : Inv P ops f a0 S0 α0 w0 act0 l α w act j V ab) (W : Walk P okF call ops S0.next f a0 V0) {p : Nat → Bool} {as : List (Nat × Ent)} (has : ∀ q, q ∈ as → q ∈ (f ops.toList.length).as) (hu : Uniq as)
 (hp : ∀ x, p x = true → Lst l x = true ∧ ab.testBit x = false) :
 ∀ i e, (addAs V S0.next p as).heap.get i = some e → (addAs V S0.next (fun x => Lst l x && !ab.testBit x) (f ops.toList.length).as).heap.get i = some e := by
 intro i e h
 rcases addAs_get _ _ _ _ _ _ h with ⟨x, h1, h2, h3⟩ | ⟨h1, h2⟩
 ·obtain ⟨q1, q2⟩ := hp x h2
  subst h3
  exact addAs_in _ _ _ _ W.uniq x e (has _ h1) (by simp [q1, q2])
 ·rw [addAs_out _ _ _ _ _ (fun x g hm hpx => ?_)]
  ·exact h2
  ·intro hix
   subst hix
   simp only [Bool.and_eq_true, Bool.not_eq_true'] at hpx
   have hlt := ((W.facts _ (Nat.le_refl _)).as x g hm).1
   rw [I.free x hlt hpx.2] at h2
   cases h2
end
end Go.Xe
