/-
  Code runs, with what is not wanted any more forgotten between the parts.
-/
import Derived.Test.YtkhjbbigangbdaaDoorM08
import Derived.Test.YtkhjbbigangbdaaDoorM12
set_option linter.unusedSimpArgs false
set_option linter.unusedVariables false
namespace Go.Xe
open Go

section
variable {P : Program} {okF : FuncId → Bool} {call : XCall} {fg : Nat → Option Nat}

/-- What code does, on all that an abstract state stands for. -/
def SR (P : Program) (c : Code) (a : XAct) (S : St) (e : XE) (a' : XAct) (S' : St) : Prop :=
  ∀ (α : Place) (w : World) (act : Act) (Q : Exit → Act → World → Prop), Rel α S w → ARel α a act.tmps → Leaves Q α S w act e a' S' → c.wp P Q act w
/-- The rounds of a loop. -/
def SL (P : Program) (n : Nat) (c : Code) (a : XAct) (S : St) (e : XE) (a' : XAct) (S' : St) : Prop :=
  ∀ (α : Place) (w : World) (act : Act) (Q : Exit → Act → World → Prop), Rel α S w → ARel α a act.tmps → Leaves Q α S w act e a' S' → Code.rounds P c Q n act w

variable {c x y : Code} {a a1 a' : XAct} {S S1 S' T : St} {e : XE} {id n : Nat}

theorem SR.of (hm : P.follows .mixedOrders = true) (hF : OkF P okF) (hC : CallSound P call) (hg : goodCode c = true) (h : Runs P okF call fg c a S e a' S') : SR P c a S e a' S' := by
  obtain ⟨n, h⟩ := h
  exact fun α w act Q hr ha hQ => (xcode_sound hm hF hC n).1 c a S α w act e a' S' Q hg hr ha h hQ
/-- What stays of a state: fewer blocks. -/
structure Less (T S : St) : Prop where
  heap : ∀ i e, T.heap.get i = some e → S.heap.get i = some e
  next : S.next ≤ T.next
  glob : T.glob = S.glob
theorem Next.less {α β : Place} {w w' : World} (h : Next α S w β S' w') (l : Less T S') : Next α S w β T w' := by
  have h1 := h.widen (m := T.next) l.next
  exact h1.same (fun i e hi => l.heap i e hi) rfl l.glob
theorem SR.weak (h : SR P c a S e a' S') (l : Less T S') : SR P c a S e a' T :=
  fun α w act Q hr ha hQ => h α w act Q hr ha (fun β w' act' hn ha' hd => hQ β w' act' (hn.less l) ha' hd)
theorem SR.seq (h : SR P x a S .normal a1 S1) (h' : SR P y a1 S1 e a' S') : SR P (.seq x y) a S e a' S' :=
  fun α w act Q hr ha hQ => wp_seq (h α w act _ hr ha (fun β w' act' hn ha' hd => h' β w' act' _ hn.rel ha' (fun γ w'' act'' hn' ha'' hd' => hQ γ w'' act'' (hn.trans hn') ha'' (hd'.trans hd))))
theorem SR.seq_exit (h : SR P x a S (.exit id) a1 S1) : SR P (.seq x y) a S (.exit id) a1 S1 :=
  fun α w act Q hr ha hQ => wp_seq (h α w act _ hr ha (fun β w' act' hn ha' hd => hQ β w' act' hn ha' hd))
theorem SR.seq_ret (h : SR P x a S .ret a1 S1) : SR P (.seq x y) a S .ret a1 S1 :=
  fun α w act Q hr ha hQ => wp_seq (h α w act _ hr ha (fun β w' act' hn ha' hd => hQ β w' act' hn ha' hd))
theorem SR.block_exit (h : SR P c a S (.exit id) a1 S1) : SR P (.block id c) a S .normal a1 S1 :=
  fun α w act Q hr ha hQ => wp_block (h α w act _ hr ha (fun β w' act' hn ha' hd => by
    simp only [XE.to, Exit.inBlock, if_true]
    exact hQ β w' act' hn ha' hd))
theorem SR.block (h : SR P c a S .normal a1 S1) : SR P (.block id c) a S .normal a1 S1 :=
  fun α w act Q hr ha hQ => wp_block (h α w act _ hr ha (fun β w' act' hn ha' hd => hQ β w' act' hn ha' hd))
theorem SL.exit (h : SR P c a S (.exit id) a1 S1) : SL P (n + 1) c a S (.exit id) a1 S1 := fun α w act Q hr ha hQ => by
  rw [rounds_succ]
  exact h α w act _ hr ha (fun β w' act' hn ha' hd => hQ β w' act' hn ha' hd)
theorem SL.step (h : SR P c a S .normal a1 S1) (h' : SL P n c a1 S1 e a' S') : SL P (n + 1) c a S e a' S' := fun α w act Q hr ha hQ => by
  rw [rounds_succ]
  exact h α w act _ hr ha (fun β w' act' hn ha' hd => h' β w' act' Q hn.rel ha' (fun γ w'' act'' hn' ha'' hd' => hQ γ w'' act'' (hn.trans hn') ha'' (hd'.trans hd)))
theorem SR.loop (h : SL P n c a S e a' S') : SR P (.loop c) a S e a' S' :=
  fun α w act Q hr ha hQ => wp_loop_rounds n (h α w act Q hr ha hQ)

def seqs : List Code → Code
  | [] => .skip
  | [c] => c
  | c :: r => .seq c (seqs r)
def appL : List Code → Code → Code
  | [], z => z
  | c :: r, z => .seq c (appL r z)

theorem Runs.seq_inv (h : Runs P okF call fg (.seq x y) a S .normal a' S') : ∃ a1 S1, Runs P okF call fg x a S .normal a1 S1 ∧ Runs P okF call fg y a1 S1 .normal a' S' := by
  obtain ⟨n, h⟩ := h
  cases n with
  | zero => simp [xcode] at h
  | succ n =>
    simp only [xcode] at h
    cases hx : xcode P okF call fg n x a S with
    | none => rw [hx] at h; cases h
    | some q =>
      obtain ⟨e0, a0, S0⟩ := q
      rw [hx] at h
      cases e0 with
      | normal => exact ⟨a0, S0, ⟨n, hx⟩, ⟨n, h⟩⟩
      | exit i => simp [XOut.then] at h
      | ret => simp [XOut.then] at h
/-- A path over some parts, one after the other, and then the rest. -/
theorem SR.parts (hm : P.follows .mixedOrders = true) (hF : OkF P okF) (hC : CallSound P call) {z : Code} : ∀ (l : List Code) (a : XAct) (S : St), l ≠ [] → goodCode (seqs l) = true →
    Runs P okF call fg (seqs l) a S .normal a1 S1 → SR P z a1 S1 e a' S' → SR P (Go.Xe.appL l z) a S e a' S'
  | [], a, S, h, _, _, _ => absurd rfl h
  | [c], a, S, _, hg, h, h' => SR.seq (SR.of hm hF hC hg h) h'
  | c :: d :: r, a, S, _, hg, h, h' => by
    simp only [seqs, goodCode, Bool.and_eq_true] at hg
    obtain ⟨a2, S2, h1, h2⟩ := h.seq_inv
    exact SR.seq (SR.of hm hF hC hg.1 h1) (SR.parts hm hF hC (d :: r) a2 S2 (by simp) hg.2 h2 h')

/-- A function whose body does this. -/
theorem SR.calls {f : FuncId} {fn : Func} (hf : P.funcs[f]? = some fn) (hb : fn.body = some c) {args : List Value} (h : SR P c (startX fn args) S e a' S') (he : e = .normal ∨ e = .ret) {v : Value} (hv : xres P fn a' S' = some v)
    {α : Place} {w : World} {args' : Array Value} (hr : Rel α S w) (ha : LRel α args args'.toList) :
    Calls P f args' w fun e w' => ∃ β v', e = .returned v' ∧ Next α S w β S' w' ∧ VRel β v v' := by
  apply calls_of_wp hf hb
  refine h α w _ _ hr (startX_rel ha) (fun β w' act' hn ha' hd => ?_)
  obtain ⟨v', h1, h2⟩ := xres_sound (P := P) hn.rel ha' hv
  rcases he with rfl | rfl
  · exact ⟨hd, v', h1, β, v', rfl, hn, h2⟩
  · exact ⟨hd, v', h1, β, v', rfl, hn, h2⟩
end
end Go.Xe
/-
  What is new is forgotten: the numbers go back to what they were.
-/
set_option linter.unusedSimpArgs false
set_option linter.unusedVariables false
namespace Go.Xe
open Go

section
variable {π : Nat → Nat}
theorem RenV.map (i : Nat) : RenV π (.map (some i)) (.map (some (π i))) := fun γ v' => ⟨fun h => by cases h; exact .map _ _ ‹_›, fun h => by cases h; exact .map _ _ ‹_›⟩
theorem RenE.map {es : List MapEntry} {clock : Nat} {ro : Bool} (h : ∀ (i : Nat) e, es[i]? = some e → RenV π e.key e.key ∧ RenV π e.val e.val) : RenE π (.map es clock ro) (.map es clock ro) := by
  refine ⟨fun γ w l => ⟨?_, ?_⟩, rfl⟩
  · rintro ⟨h0, es', h1, h2, h3⟩
    refine ⟨h0, es', h1, h2, fun i e e' he he' => ?_⟩
    obtain ⟨g1, g2, g3⟩ := h3 i e e' he he'
    exact ⟨((h i e he).1 γ _).1 g1, ((h i e he).2 γ _).1 g2, g3⟩
  · rintro ⟨h0, es', h1, h2, h3⟩
    refine ⟨h0, es', h1, h2, fun i e e' he he' => ?_⟩
    obtain ⟨g1, g2, g3⟩ := h3 i e e' he he'
    exact ⟨((h i e he).1 γ _).2 g1, ((h i e he).2 γ _).2 g2, g3⟩
end

def low1 (m : Nat) : Value → Bool
  | .pointer (some ⟨i, _, none⟩) => decide (i < m)
  | .slice (some ⟨i, _, none⟩) _ _ => decide (i < m)
  | .map (some i) => decide (i < m)
  | v => plain1 v
def low (m : Nat) : Value → Bool
  | .agg a => a.toList.all (low1 m)
  | .tuple a => a.toList.all (low1 m)
  | v => low1 m v
def lowE (m : Nat) : Ent → Bool
  | .row cs _ _ => cs.all (low1 m)
  | .map es _ _ => es.all fun e => low m e.key && low m e.val
  | _ => false
def Keeps (m : Nat) (π : Nat → Nat) : Prop := ∀ j, j < m → π j = j

theorem low1_ren {m : Nat} {π : Nat → Nat} (hk : Keeps m π) {v : Value} (h : low1 m v = true) : RenV π v v := by
  unfold low1 at h
  split at h
  · rename_i i o; simp only [decide_eq_true_eq] at h; have := RenV.ptr (π := π) i o; rw [hk i h] at this; exact this
  · rename_i i o l c; simp only [decide_eq_true_eq] at h; have := RenV.slice (π := π) i o l c; rw [hk i h] at this; exact this
  · rename_i i; simp only [decide_eq_true_eq] at h; have := RenV.map (π := π) i; rw [hk i h] at this; exact this
  · exact .plain1 h
theorem low1s_ren {m : Nat} {π : Nat → Nat} (hk : Keeps m π) {l : List Value} (h : l.all (low1 m) = true) : RenL π l l :=
  ⟨rfl, fun i a b ha hb => by rw [ha] at hb; cases hb; exact low1_ren hk (List.all_eq_true.1 h a (List.mem_of_getElem? ha))⟩
theorem low_ren {m : Nat} {π : Nat → Nat} (hk : Keeps m π) {v : Value} (h : low m v = true) : RenV π v v := by
  unfold low at h
  split at h
  · exact .agg (low1s_ren hk h)
  · exact .tuple (low1s_ren hk h)
  · exact low1_ren hk h
theorem lowE_ren {m : Nat} {π : Nat → Nat} (hk : Keeps m π) {e : Ent} (h : lowE m e = true) : RenE π e e := by
  unfold lowE at h
  split at h
  · exact .row (low1s_ren hk h)
  · rename_i es c ro
    refine .map (fun i e he => ?_)
    have := List.all_eq_true.1 h e (List.mem_of_getElem? he)
    simp only [Bool.and_eq_true] at this
    exact ⟨low_ren hk this.1, low_ren hk this.2⟩
  · cases h
theorem plain1_low {m : Nat} {v : Value} (h : plain1 v = true) : low1 m v = true := by
  unfold low1
  split <;> first | (simp [plain1] at h; done) | exact h

/-- T is what stays of S, with the numbers below m only. -/
structure Kept (m : Nat) (T S : St) : Prop where
  heap : ∀ i e, T.heap.get i = some e → S.heap.get i = some e ∧ i < m ∧ ∀ π, Keeps m π → RenE π e e
  next : T.next = m
  le : m ≤ S.next
  glob : T.glob = S.glob
  gle : T.glob ≤ m

theorem Next.forget {α β : Place} {S S' T : St} {w w' : World} {m : Nat} (h : Next α S w β S' w') (k : Kept m T S') (hm : S.next ≤ m) (hr : Rel α S w) :
    ∃ β', Next α S w β' T w' ∧ ∀ v v', (∀ π, Keeps m π → RenV π v v) → VRel β v v' → VRel β' v v' := by
  let π : Nat → Nat := fun i => if i < m then i else S'.next
  have hk : Keeps m π := fun j hj => if_pos hj
  let β' : Place := fun i => β (π i)
  have hlt : ∀ i, i < m → β' i = β i := fun i hi => by show β (π i) = _; rw [hk i hi]
  have hge : ∀ i, ¬ i < m → β' i = none := fun i hi => by
    show β (if i < m then i else S'.next) = none
    rw [if_neg hi]
    cases hb : β S'.next with
    | none => rfl
    | some l => exact absurd (h.rel.fresh _ l hb) (Nat.lt_irrefl _)
  have some_lt : ∀ i l, β' i = some l → i < m ∧ β i = some l := fun i l hl => by
    by_cases hi : i < m
    · exact ⟨hi, by rw [← hlt i hi]; exact hl⟩
    · rw [hge i hi] at hl; cases hl
  refine ⟨β', ⟨fun i l hl => ?_, ⟨fun i e hi => ?_, fun i j e f l q hij hi hj hro hl hq => ?_, fun i l hl => ?_, fun i l hl => h.rel.size _ l (some_lt i l hl).2, fun i l hi hl => ?_, ?_⟩, h.frame, fun j f q hj hf hq => ?_, ?_, ?_, fun i hi => ?_, fun i e hi hlt' => ?_, fun i e hi hro => ?_⟩, fun v v' hv hvr => ((hv π hk) β v').2 hvr⟩
  · rw [hlt i (Nat.lt_of_lt_of_le (hr.fresh i l hl) hm)]; exact h.ext i l hl
  · obtain ⟨h1, h2, h3⟩ := k.heap i e hi
    obtain ⟨l, hl, he⟩ := h.rel.ent i e h1
    exact ⟨l, by rw [hlt i h2]; exact hl, ((h3 π hk).rel β w' l).2 he⟩
  · obtain ⟨h1, h2, _⟩ := k.heap i e hi
    obtain ⟨g1, g2, _⟩ := k.heap j f hj
    exact h.rel.apart i j e f l q hij h1 g1 hro (some_lt i l hl).2 (some_lt j q hq).2
  · rw [k.next]; exact (some_lt i l hl).1
  · rw [k.glob] at hi; exact h.rel.glob i l hi (some_lt i l hl).2
  · rw [k.next]; exact k.gle
  · obtain ⟨h1, h2, _⟩ := k.heap j f hj
    exact h.kept j f q h1 hf (some_lt j q hq).2
  · rw [k.next]; exact hm
  · rw [k.glob]; exact h.glob
  · rw [hlt i (Nat.lt_of_lt_of_le hi hm)]; exact h.old i hi
  · exact h.ids i e (k.heap i e hi).1 hlt'
  · exact h.ros i e (k.heap i e hi).1 hro

section
variable {P : Program} {c : Code} {a a' : XAct} {S S' T : St} {e : XE} {m : Nat}
theorem SR.forget (h : SR P c a S e a' S') (k : Kept m T S') (hm : S.next ≤ m) (ha : ∀ i v, slot a' i = some v → ∀ π, Keeps m π → RenV π v v) : SR P c a S e a' T :=
  fun α w act Q hr har hQ => h α w act Q hr har (fun β w' act' hn ha' hd => by
    obtain ⟨β', hn', hv⟩ := hn.forget k hm hr
    refine hQ β' w' act' hn' ⟨ha'.1, fun i v hi => ?_⟩ hd
    obtain ⟨v', h1, h2⟩ := ha'.2 i v hi
    exact ⟨v', h1, hv v v' (ha i v hi) h2⟩)
end
theorem SR.pre {P : Program} {c : Code} {a a' : XAct} {S S' T : St} {e : XE} (l : Less T S) (h : SR P c a T e a' S') : SR P c a S e a' S' := fun α w act Q hr ha hQ => by
  have n0 := (Next.refl hr).less l
  exact h α w act Q n0.rel ha (fun β w' act' hn ha' hd => hQ β w' act' (n0.trans hn) ha' hd)
theorem SR.preKept {P : Program} {c : Code} {a a' : XAct} {S S' T : St} {e : XE} {m : Nat} (k : Kept m T S) (hm : S.next ≤ m) (h : SR P c a T e a' S') : SR P c a S e a' S' :=
  h.pre ⟨fun i e hi => (k.heap i e hi).1, by rw [k.next]; exact hm, k.glob⟩
/-- all slots are low -/
def lowA (m : Nat) (a : XAct) : Bool := a.all fun v => match v with | some v => low m v | none => true
theorem lowA_ren {m : Nat} {a : XAct} (h : lowA m a = true) : ∀ i v, slot a i = some v → ∀ π, Keeps m π → RenV π v v := by
  intro i v hv π hk
  unfold slot at hv
  split at hv
  · rename_i o ho
    subst hv
    have := List.all_eq_true.1 h _ (List.mem_of_getElem? ho)
    exact low_ren hk this
  · cases hv
end Go.Xe
/-
  Open: states, and parts of its code.
-/
set_option linter.unusedVariables false
namespace Go.Xe
open Go Go.Proofs
def orc3 : Orc := fun f => if f = 34 then some getF else if f = 37 then some sumF else if f = 48 then some putF else if f = 18 then some readFn else if f = 17 then some markedFn else if f = 44 then some imageFn else none
noncomputable def yc3 : YCall := ygo Tryd.prog okN orc3 kp 100
noncomputable def pre8 : List Code := [sub (codeOf Tryd.prog 8) [0], sub (codeOf Tryd.prog 8) [1, 0], sub (codeOf Tryd.prog 8) [1, 1, 0], sub (codeOf Tryd.prog 8) [1, 1, 1, 0], sub (codeOf Tryd.prog 8) [1, 1, 1, 1, 0], sub (codeOf Tryd.prog 8) [1, 1, 1, 1, 1, 0],
  sub (codeOf Tryd.prog 8) [1, 1, 1, 1, 1, 1, 0], sub (codeOf Tryd.prog 8) [1, 1, 1, 1, 1, 1, 1, 0], sub (codeOf Tryd.prog 8) [1, 1, 1, 1, 1, 1, 1, 1, 0], sub (codeOf Tryd.prog 8) [1, 1, 1, 1, 1, 1, 1, 1, 1, 0]]
noncomputable abbrev head8 : Code := sub (codeOf Tryd.prog 8) [1,1,1,1,1,1,1,1,1,1,0,0]
noncomputable abbrev loop8 : Code := sub (codeOf Tryd.prog 8) [1,1,1,1,1,1,1,1,1,1,0,1,0,0]
noncomputable abbrev post8 : Code := sub (codeOf Tryd.prog 8) [1,1,1,1,1,1,1,1,1,1,1]
/-- a heap of these entries -/
def putL (t : PT Ent) : List (Nat × Ent) → PT Ent
  | [] => t
  | p :: r => putL (t.set p.1 (some p.2)) r
theorem get_putL : ∀ (l : List (Nat × Ent)) (t : PT Ent) (i : Nat) (e : Ent), (putL t l).get i = some e → t.get i = some e ∨ (i, e) ∈ l
  | [], t, i, e, h => .inl h
  | p :: r, t, i, e, h => by
    rcases get_putL r _ i e h with h1 | h1
    · rw [PT.get_set] at h1
      split at h1
      · rename_i hi; subst hi; cases h1; exact .inr (by simp)
      · exact .inl h1
    · exact .inr (by simp [h1])
def ofL (l : List (Nat × Ent)) (n : Nat) : St := { heap := putL .leaf l, next := n, glob := 0 }
theorem Kept.ofL {l : List (Nat × Ent)} {m : Nat} {S : St} (h : ∀ p ∈ l, S.heap.get p.1 = some p.2 ∧ p.1 < m ∧ ∀ π, Keeps m π → RenE π p.2 p.2) (hm : m ≤ S.next) (hg : S.glob = 0) : Kept m (ofL l m) S :=
  ⟨fun i e hi => by
    rcases get_putL l .leaf i e hi with h1 | h1
    · simp [PT.get] at h1
    · exact h (i, e) h1, rfl, hm, hg.symm, Nat.zero_le _⟩

def diskRow (n : Nat) : Ent := .row [.slice (some ⟨0, 0, none⟩) n n, .slice (some ⟨1, 0, none⟩) n n, .slice none 0 0, .int .i64 (-1), .bool false] 0 false
def cacheRow (sz : Int) (recs : Value) (nx hd : Int) : Ent := .row [.pointer (some ⟨2, 0, none⟩), .int .i64 sz, .int .u64 0, .int .i64 0, recs, .map (some 3), .int .u64 nx, .int .i64 hd, .int .i64 0, .bool false] 0 false
def recCells (c : UInt8) (v : Nat) : List Value := [.int .i64 0, .int .i64 ((34 + v : Nat) : Int), .int .u64 1, .string ⟨#[c]⟩, .int .i64 (v : Int), .bool false]
def oS (n : Nat) (cs ds : List Value) (sz : Int) : St := ofL [(0, .row cs 1 false), (2, diskRow n), (3, .map [] 0 false), (4, cacheRow sz (.slice none 0 0) 1 0), (6, .row ds 1 false), (180, .row [.int .u64 0] 0 false)] 181
def oS1 (n v : Nat) (c : UInt8) (cs ds : List Value) (sz : Int) : St := ofL [(0, .row cs 1 false), (2, diskRow n), (3, .map [] 0 false), (4, cacheRow sz (.slice (some ⟨244, 0, none⟩) 1 1) 2 ((34 + v : Nat) : Int)), (6, .row ds 1 false), (180, .row [.int .u64 1] 0 false), (244, .row (recCells c v) 6 false)] 245
def oHead (l cp : Nat) (k : Int) (j : Option Value) : XAct := [none, none, none, none, none, some (.pointer (some ⟨4, 0, none⟩)), some (.slice (some ⟨6, 0, none⟩) l cp), none, none, none, some (.pointer (some ⟨180, 0, none⟩)), some (.int .i64 k)] ++ List.replicate 67 none ++ [j] ++ List.replicate 101 none

def oHead0 (l cp : Nat) : XAct := [none, none, none, none, none, some (.pointer (some ⟨4, 0, none⟩)), some (.slice (some ⟨6, 0, none⟩) l cp), none, none, none, some (.pointer (some ⟨180, 0, none⟩))] ++ List.replicate 170 none
def oDisk (n : Nat) (cs : List Value) : St := ofL [(0, .row cs 1 false), (2, diskRow n)] 3
def oEnd : XAct := [none, none, some (.pointer (some ⟨4, 0, none⟩)), some (.int .i64 0)] ++ List.replicate 177 none
end Go.Xe
