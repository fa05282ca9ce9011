/- A part of the proof. -/
import Derived.Calls
import Derived.Orders
import Derived.Laws.Sem
import Derived.Laws.Cells
import Derived.Lib.FrozenHead
import Derived.WalkKit
set_option linter.all false
namespace Go.Xe
open Go
inductive PT (α : Type) where
 | leaf : PT α
 | node (l : PT α) (v : Option α) (r : PT α) : PT α
namespace PT
variable {α : Type}
def get : PT α → Nat → Option α
 | .leaf, _ => none
 | .node l v r, n => if n = 0 then v else if n % 2 = 1 then l.get (n / 2) else r.get (n / 2 - 1)
def setF : Nat → PT α → Nat → Option α → PT α
 | 0, t, _, _ => t
 | k + 1, .leaf, n, x =>
  if n = 0 then .node .leaf x .leaf else if n % 2 = 1 then .node (setF k .leaf (n / 2) x) none .leaf
  else .node .leaf none (setF k .leaf (n / 2 - 1) x)
 | k + 1, .node l v r, n, x =>
  if n = 0 then .node l x r else if n % 2 = 1 then .node (setF k l (n / 2) x) v r else .node l v (setF k r (n / 2 - 1) x)
def set (t : PT α) (n : Nat) (x : Option α) : PT α := setF (Nat.log2 (n + 1) + 1) t n x
theorem get_setF (k : Nat) : ∀ (t : PT α) (n m : Nat) (x : Option α), n + 1 < 2 ^ k → (setF k t n x).get m = if m = n then x else t.get m := by
 induction k with
 | zero => intro t n m x h; simp at h
 | succ k ih =>
  intro t n m x h
  have hk : 2 ^ (k + 1) = 2 * 2 ^ k := by rw [Nat.pow_succ, Nat.mul_comm]
  rw [hk] at h
  cases t with
  | leaf =>
   simp only [setF]
   by_cases h0 : n = 0
   ·subst h0; simp only [if_true]; simp only [get]
    by_cases hm : m = 0 <;> simp [hm]
   ·rw [if_neg h0]
    by_cases h1 : n % 2 = 1
    ·rw [if_pos h1]; simp only [get]
     by_cases hm : m = 0
     ·subst hm; simp; omega
     ·rw [if_neg hm]
      by_cases hm1 : m % 2 = 1
      ·rw [if_pos hm1, ih _ _ _ _ (by omega)]
       by_cases e : m = n
       ·subst e; simp
       ·rw [if_neg e, if_neg (by omega)]; simp [get]
      ·rw [if_neg hm1, if_neg (by omega)]
    ·rw [if_neg h1]; simp only [get]
     by_cases hm : m = 0
     ·subst hm; simp; omega
     ·rw [if_neg hm]
      by_cases hm1 : m % 2 = 1
      ·rw [if_pos hm1, if_neg (by omega)]
      ·rw [if_neg hm1, ih _ _ _ _ (by omega)]
       by_cases e : m = n
       ·subst e; simp
       ·rw [if_neg e, if_neg (by omega)]; simp [get]
  | node l v r =>
   simp only [setF]
   by_cases h0 : n = 0
   ·subst h0; simp only [if_true]; simp only [get]
    by_cases hm : m = 0 <;> simp [hm]
   ·rw [if_neg h0]
    by_cases h1 : n % 2 = 1
    ·rw [if_pos h1]; simp only [get]
     by_cases hm : m = 0
     ·subst hm; simp; omega
     ·rw [if_neg hm]
      by_cases hm1 : m % 2 = 1
      ·rw [if_pos hm1, ih _ _ _ _ (by omega), if_neg hm, if_pos hm1]
       by_cases e : m = n
       ·subst e; simp
       ·rw [if_neg e, if_neg (by omega)]
      ·rw [if_neg hm1, if_neg (by omega), if_neg hm, if_neg hm1]
    ·rw [if_neg h1]; simp only [get]
     by_cases hm : m = 0
     ·subst hm; simp; omega
     ·rw [if_neg hm]
      by_cases hm1 : m % 2 = 1
      ·rw [if_pos hm1, if_neg (by omega), if_neg hm, if_pos hm1]
      ·rw [if_neg hm1, ih _ _ _ _ (by omega), if_neg hm, if_neg hm1]
       by_cases e : m = n
       ·subst e; simp
       ·rw [if_neg e, if_neg (by omega)]
theorem get_set (t : PT α) (n m : Nat) (x : Option α) : (t.set n x).get m = if m = n then x else t.get m :=
 get_setF _ _ _ _ _ Nat.lt_log2_self
theorem get_set_same (t : PT α) (n : Nat) (x : Option α) : (t.set n x).get n = x := by rw [get_set, if_pos rfl]
theorem get_set_ne (t : PT α) {n m : Nat} (x : Option α) (h : m ≠ n) : (t.set n x).get m = t.get m := by rw [get_set, if_neg h]
end PT
inductive Ent where
 | row (cs : List Value) (esz : Nat) (ro : Bool)
 | map (es : List MapEntry) (clock : Nat) (ro : Bool)
 | iter (m : Nat) (since : Nat) (seen : List Nat) (stepped : Nat)
 | siter (s : ByteArray) (pos : Nat)
def Ent.ro : Ent → Bool
 | .row _ _ r => r
 | .map _ _ r => r
 | _ => false
structure St where
 heap : PT Ent
 next : Nat
 glob : Nat
def putO (t : PT Ent) : List (Nat × Option Ent) → PT Ent
 | [] => t
 | p :: r => putO (t.set p.1 p.2) r
def stO (t : PT Ent) (l : List (Nat × Option Ent)) (n g : Nat) : St := { heap := putO t l, next := n, glob := g }
def ch {α : Type} : Nat → Nat → PT α → PT α
 | 0, _, t => t
 | k + 1, n, t => if n % 2 == 1 then .node .leaf none (ch k (n / 2) t) else .node (ch k (n / 2) t) none .leaf
def lr (cs : List Value) (s : Nat) (ro : Bool) : PT Ent := .node .leaf (some (.row cs s ro)) .leaf
def ln (e : Option Ent) : PT Ent := .node .leaf e .leaf
def l0 : PT Ent := .node .leaf none .leaf
def ri (t : PT Ent) : PT Ent := .node .leaf none t
def le (t : PT Ent) : PT Ent := .node t none .leaf
def nd (t u : PT Ent) : PT Ent := .node t none u
abbrev ad (n : Nat) : Option Addr := some ⟨n, 0, none⟩
def tn : Nat → Bool → Bool
 | 0, b => b
 | n + 1, b => tn n b && true
def rp : Nat → Bool → Bool → Bool
 | 0, _, r => r
 | n + 1, b, r => b && true && rp n b r
def nn (n : Nat) : List (Option Value) := List.replicate n none
def bits : Nat → Nat → List Bool
 | 0, _ => []
 | k + 1, n => (n % 2 == 1) :: bits k (n / 2)
structure Loc where
 blk : Nat
 off : Nat
 room : Nat
 esz : Nat
abbrev Place := Nat → Option Loc
inductive VRel (α : Place) : Value → Value → Prop where
 | bool (b : Bool) : VRel α (.bool b) (.bool b)
 | int (k : IntKind) (n : Int) : VRel α (.int k n) (.int k n)
 | float (k : FloatKind) (n : Nat) : VRel α (.float k n) (.float k n)
 | string (s : ByteArray) : VRel α (.string s) (.string s)
 | ptrNil : VRel α (.pointer none) (.pointer none)
 | ptr (i o : Nat) (l : Loc) (h : α i = some l) : VRel α (.pointer (some ⟨i, o, none⟩)) (.pointer (some ⟨l.blk, l.off + o, none⟩))
 | sliceNil : VRel α (.slice none 0 0) (.slice none 0 0)
 | slice (i o len cap cap' : Nat) (l : Loc) (h : α i = some l) (hl : len ≤ cap) (hc : cap ≤ cap') (hr : o + cap' * l.esz ≤ l.room) :
  VRel α (.slice (some ⟨i, o, none⟩) len cap) (.slice (some ⟨l.blk, l.off + o, none⟩) len cap')
 | sliceEnd (a a' : Addr) : VRel α (.slice (some a) 0 0) (.slice (some a') 0 0)
 | mapNil : VRel α (.map none) (.map none)
 | map (i : Nat) (l : Loc) (h : α i = some l) : VRel α (.map (some i)) (.map (some l.blk))
 | nilFunc : VRel α .nilFunc .nilFunc
 | func (fn : Fn) (a b a' b' : Array Value) (ha : a.size = a'.size) (hb : b.size = b'.size)
  (hra : ∀ (i : Nat) v v', a[i]? = some v → a'[i]? = some v' → VRel α v v') (hrb : ∀ (i : Nat) v v', b[i]? = some v → b'[i]? = some v' → VRel α v v') :
  VRel α (.func fn a b) (.func fn a' b')
 | nilIface : VRel α .nilIface .nilIface
 | iface (t : TypeId) (v v' : Value) (h : VRel α v v') : VRel α (.iface t v) (.iface t v')
 | agg (a a' : Array Value) (ha : a.size = a'.size) (hr : ∀ (i : Nat) v v', a[i]? = some v → a'[i]? = some v' → VRel α v v') : VRel α (.agg a) (.agg a')
 | tuple (a a' : Array Value) (ha : a.size = a'.size) (hr : ∀ (i : Nat) v v', a[i]? = some v → a'[i]? = some v' → VRel α v v') : VRel α (.tuple a) (.tuple a')
def LRel (α : Place) (l l' : List Value) : Prop := l.length = l'.length ∧ ∀ (i : Nat) v v', l[i]? = some v → l'[i]? = some v' → VRel α v v'
def Place.Ext (α β : Place) : Prop := ∀ i l, α i = some l → β i = some l
theorem Place.Ext.refl (α : Place) : α.Ext α := fun _ _ h => h
theorem Place.Ext.trans {α β γ : Place} (h : α.Ext β) (h' : β.Ext γ) : α.Ext γ := fun i l e => h' i l (h i l e)
theorem VRel.mono {α β : Place} (h : α.Ext β) {v v' : Value} (r : VRel α v v') : VRel β v v' := by
 induction r with
 | bool b => exact .bool b
 | int k n => exact .int k n
 | float k n => exact .float k n
 | string s => exact .string s
 | ptrNil => exact .ptrNil
 | ptr i o l hl => exact .ptr i o l (h _ _ hl)
 | sliceNil => exact .sliceNil
 | slice i o len cap cap' l hl h1 h2 h3 => exact .slice i o len cap cap' l (h _ _ hl) h1 h2 h3
 | sliceEnd a a' => exact .sliceEnd a a'
 | mapNil => exact .mapNil
 | map i l hl => exact .map i l (h _ _ hl)
 | nilFunc => exact .nilFunc
 | func fn a b a' b' ha hb _ _ iha ihb => exact .func fn a b a' b' ha hb iha ihb
 | nilIface => exact .nilIface
 | iface t v v' _ ih => exact .iface t v v' ih
 | agg a a' ha _ ih => exact .agg a a' ha ih
 | tuple a a' ha _ ih => exact .tuple a a' ha ih
theorem LRel.mono {α β : Place} (h : α.Ext β) {l l' : List Value} (r : LRel α l l') : LRel β l l' :=
 ⟨r.1, fun i v v' a b => (r.2 i v v' a b).mono h⟩
theorem LRel.nil (α : Place) : LRel α [] [] := ⟨rfl, fun i v v' h => by simp at h⟩
theorem LRel.cons {α : Place} {v v' : Value} {l l' : List Value} (h : VRel α v v') (r : LRel α l l') : LRel α (v :: l) (v' :: l') := by
 refine ⟨by simp [r.1], fun i a a' h1 h2 => ?_⟩
 cases i with
 | zero => simp at h1 h2; subst h1; subst h2; exact h
 | succ i => simp at h1 h2; exact r.2 i a a' h1 h2
theorem LRel.get {α : Place} {l l' : List Value} (r : LRel α l l') {i : Nat} {v : Value} (h : l[i]? = some v) : ∃ v', l'[i]? = some v' ∧ VRel α v v' := by
 obtain ⟨hi, e⟩ := List.getElem?_eq_some_iff.1 h
 have : i < l'.length := by have := r.1; omega
 exact ⟨l'[i], List.getElem?_eq_getElem this, r.2 i v _ h (List.getElem?_eq_getElem this)⟩
theorem LRel.append {α : Place} {a a' b b' : List Value} (r : LRel α a a') (s : LRel α b b') : LRel α (a ++ b) (a' ++ b') := by
 refine ⟨by simp [r.1, s.1], fun i v v' h1 h2 => ?_⟩
 by_cases hi : i < a.length
 ·rw [List.getElem?_append_left hi] at h1
  rw [List.getElem?_append_left (by have := r.1; omega)] at h2
  exact r.2 i v v' h1 h2
 ·rw [List.getElem?_append_right (by omega)] at h1
  rw [List.getElem?_append_right (by have := r.1; omega), ← r.1] at h2
  exact s.2 _ v v' h1 h2
theorem LRel.take {α : Place} {a a' : List Value} (r : LRel α a a') (n : Nat) : LRel α (a.take n) (a'.take n) := by
 refine ⟨by simp [r.1], fun i v v' h1 h2 => ?_⟩
 rw [List.getElem?_take] at h1 h2
 by_cases hi : i < n
 ·rw [if_pos hi] at h1 h2; exact r.2 i v v' h1 h2
 ·rw [if_neg hi] at h1; cases h1
theorem LRel.drop {α : Place} {a a' : List Value} (r : LRel α a a') (n : Nat) : LRel α (a.drop n) (a'.drop n) := by
 refine ⟨by simp [r.1], fun i v v' h1 h2 => ?_⟩
 rw [List.getElem?_drop] at h1 h2; exact r.2 _ v v' h1 h2
theorem LRel.agg {α : Place} {a a' : List Value} (r : LRel α a a') : VRel α (.agg a.toArray) (.agg a'.toArray) :=
 .agg _ _ (by simp [r.1]) (fun i v v' h1 h2 => r.2 i v v' (by simpa using h1) (by simpa using h2))
theorem LRel.tuple {α : Place} {a a' : List Value} (r : LRel α a a') : VRel α (.tuple a.toArray) (.tuple a'.toArray) :=
 .tuple _ _ (by simp [r.1]) (fun i v v' h1 h2 => r.2 i v v' (by simpa using h1) (by simpa using h2))
theorem LRel.of_arrays {α : Place} {a a' : Array Value} (ha : a.size = a'.size) (hr : ∀ (i : Nat) v v', a[i]? = some v → a'[i]? = some v' → VRel α v v') :
 LRel α a.toList a'.toList := ⟨by simpa using ha, fun i v v' h1 h2 => hr i v v' (by simpa using h1) (by simpa using h2)⟩
theorem VRel.cells {α : Place} {v v' : Value} (r : VRel α v v') : LRel α v.cells.toList v'.cells.toList := by
 cases r with
 | agg a a' ha hr => exact LRel.of_arrays ha hr
 | bool => exact .cons (.bool _) (.nil _)
 | int => exact .cons (.int _ _) (.nil _)
 | float => exact .cons (.float _ _) (.nil _)
 | string => exact .cons (.string _) (.nil _)
 | ptrNil => exact .cons .ptrNil (.nil _)
 | ptr i o l h => exact .cons (.ptr i o l h) (.nil _)
 | sliceNil => exact .cons .sliceNil (.nil _)
 | slice i o len cap cap' l h a b c => exact .cons (.slice i o len cap cap' l h a b c) (.nil _)
 | sliceEnd a a' => exact .cons (.sliceEnd a a') (.nil _)
 | mapNil => exact .cons .mapNil (.nil _)
 | map i l h => exact .cons (.map i l h) (.nil _)
 | nilFunc => exact .cons .nilFunc (.nil _)
 | func fn a b a' b' ha hb hra hrb => exact .cons (.func fn a b a' b' ha hb hra hrb) (.nil _)
 | nilIface => exact .cons .nilIface (.nil _)
 | iface t v v' h => exact .cons (.iface t v v' h) (.nil _)
 | tuple a a' ha hr => exact .cons (.tuple a a' ha hr) (.nil _)
def plain1 : Value → Bool
 | .bool _ | .int _ _ | .float _ _ | .string _ | .pointer none | .slice none 0 0 | .map none | .nilFunc | .nilIface => true
 | .func _ a b => a.toList.isEmpty && b.toList.isEmpty
 | _ => false
def plain : Value → Bool
 | .agg a => a.toList.all plain1
 | .tuple a => a.toList.all plain1
 | .iface _ v => plain1 v
 | v => plain1 v
theorem plain1_rel (α : Place) (v : Value) (h : plain1 v = true) : VRel α v v := by
 cases v with
 | bool b => exact .bool b
 | int k n => exact .int k n
 | float k n => exact .float k n
 | string s => exact .string s
 | pointer a => cases a with
  | none => exact .ptrNil
  | some a => simp [plain1] at h
 | slice a n c =>
  cases a with
  | none =>
   cases n with
   | zero => cases c with
    | zero => exact .sliceNil
    | succ c => simp [plain1] at h
   | succ n => simp [plain1] at h
  | some a => simp [plain1] at h
 | map r => cases r with
  | none => exact .mapNil
  | some a => simp [plain1] at h
 | nilFunc => exact .nilFunc
 | nilIface => exact .nilIface
 | func fn a b =>
  simp [plain1] at h
  obtain ⟨ha, hb⟩ := h
  subst ha; subst hb
  exact .func fn _ _ _ _ rfl rfl (fun i v v' h => by simp at h) (fun i v v' h => by simp at h)
 | complex k a b => simp [plain1] at h
 | chan r => simp [plain1] at h
 | iface t v => simp [plain1] at h
 | agg a => simp [plain1] at h
 | tuple a => simp [plain1] at h
theorem plain1_list (α : Place) {l : List Value} (h : l.all plain1 = true) : LRel α l l :=
 ⟨rfl, fun i v v' h1 h2 => by
  rw [h1] at h2; cases h2
  exact plain1_rel α v (List.all_eq_true.1 h v (List.mem_of_getElem? h1))⟩
theorem plain_rel (α : Place) (v : Value) (h : plain v = true) : VRel α v v := by
 cases v with
 | agg a => have := (plain1_list α (l := a.toList) h).agg; simpa using this
 | tuple a => have := (plain1_list α (l := a.toList) h).tuple; simpa using this
 | iface t v => exact .iface t v v (plain1_rel α v h)
 | bool b => exact plain1_rel α _ h
 | int k n => exact plain1_rel α _ h
 | float k n => exact plain1_rel α _ h
 | string s => exact plain1_rel α _ h
 | pointer a => exact plain1_rel α _ h
 | slice a n c => exact plain1_rel α _ h
 | map r => exact plain1_rel α _ h
 | nilFunc => exact plain1_rel α _ h
 | nilIface => exact plain1_rel α _ h
 | func fn a b => exact plain1_rel α _ h
 | complex k a b => exact plain1_rel α _ h
 | chan r => exact plain1_rel α _ h
def Free (n : Nat) (fr : Nat × Nat) : Prop := (∀ o, o < n → ¬(fr.1 ≤ o ∧ o < fr.2)) ∧ fr.1 ≤ fr.2
def EntRel (α : Place) (w : World) (l : Loc) : Ent → Prop
 | .row cs esz ro => esz = l.esz ∧ ∃ (c : Array Value) (e : TypeId) (fr : Nat × Nat), w.heap[l.blk]? = some (.cells c e fr) ∧ l.off + l.room ≤ c.size ∧ cs.length ≤ l.room ∧
  (ro = false → Free c.size fr) ∧
  ∀ (i : Nat) v, cs[i]? = some v → ∃ v', c[l.off + i]? = some v' ∧ VRel α v v'
 | .map es clock _ => l.off = 0 ∧ ∃ es' : Array MapEntry, w.heap[l.blk]? = some (.map es' clock) ∧ es.length = es'.size ∧
  ∀ (i : Nat) e e', es[i]? = some e → es'[i]? = some e' → VRel α e.key e'.key ∧ VRel α e.val e'.val ∧ e.born = e'.born
 | .iter m since seen stepped => l.off = 0 ∧ ∃ lm, α m = some lm ∧ w.heap[l.blk]? = some (.mapIter (some lm.blk) since seen.toArray stepped)
 | .siter s pos => l.off = 0 ∧ w.heap[l.blk]? = some (.stringIter s pos)
structure Rel (α : Place) (S : St) (w : World) : Prop where
 ent : ∀ i e, S.heap.get i = some e → ∃ l, α i = some l ∧ EntRel α w l e
 apart : ∀ i j e f l m, i ≠ j → S.heap.get i = some e → S.heap.get j = some f → (e.ro = false ∨ f.ro = false) → α i = some l → α j = some m → l.blk ≠ m.blk
 fresh : ∀ i l, α i = some l → i < S.next
 size : ∀ i l, α i = some l → l.blk < w.heap.size
 glob : ∀ i l, i < S.glob → α i = some l → l.blk = i ∧ l.off = 0
 gle : S.glob ≤ S.next
structure Frame (α : Place) (S : St) (w w' : World) : Prop where
 size : w.heap.size ≤ w'.heap.size
 block : ∀ b, b < w.heap.size → (∀ i e l, S.heap.get i = some e → e.ro = false → α i = some l → l.blk ≠ b) → w'.heap[b]? = w.heap[b]?
 os : w'.os = w.os
 tape : w'.tape = w.tape
 output : w'.output = w.output
theorem Frame.refl (α : Place) (S : St) (w : World) : Frame α S w w := ⟨Nat.le_refl _, fun _ _ _ => rfl, rfl, rfl, rfl⟩
structure Next (α : Place) (S : St) (w : World) (β : Place) (S' : St) (w' : World) : Prop where
 ext : α.Ext β
 rel : Rel β S' w'
 frame : Frame α S w w'
 kept : ∀ j f m, S'.heap.get j = some f → f.ro = false → β j = some m →
  w.heap.size ≤ m.blk ∨ ∃ i e l, S.heap.get i = some e ∧ e.ro = false ∧ α i = some l ∧ l.blk = m.blk
 next : S.next ≤ S'.next
 glob : S'.glob = S.glob
 old : ∀ i, i < S.next → β i = α i
 ids : ∀ i e, S'.heap.get i = some e → i < S.next → ∃ f, S.heap.get i = some f
 ros : ∀ i e, S'.heap.get i = some e → e.ro = true → S.heap.get i = some e
theorem Next.refl {α : Place} {S : St} {w : World} (h : Rel α S w) : Next α S w α S w :=
 ⟨.refl _, h, .refl _ _ _, fun j f m hj hf hm => .inr ⟨j, f, m, hj, hf, hm, rfl⟩, Nat.le_refl _, rfl, fun _ _ => rfl, fun _ e h _ => ⟨e, h⟩, fun _ _ h _ => h⟩
theorem Next.trans {α β γ : Place} {S S1 S2 : St} {w w1 w2 : World} (h : Next α S w β S1 w1) (h' : Next β S1 w1 γ S2 w2) : Next α S w γ S2 w2 := by
 refine ⟨h.ext.trans h'.ext, h'.rel, ⟨Nat.le_trans h.frame.1 h'.frame.1, fun b hb hn => ?_, h'.frame.os.trans h.frame.os, h'.frame.tape.trans h.frame.tape, h'.frame.output.trans h.frame.output⟩, fun j f m hj hf hm => ?_, Nat.le_trans h.next h'.next, h'.glob.trans h.glob, fun i hi => (h'.old i (Nat.lt_of_lt_of_le hi h.next)).trans (h.old i hi), fun i e hi hlt => let ⟨f, hf⟩ := h'.ids i e hi (Nat.lt_of_lt_of_le hlt h.next); h.ids i f hf hlt, fun i e hi hr => h.ros i e (h'.ros i e hi hr) hr⟩
 ·rw [h'.frame.2 b (Nat.lt_of_lt_of_le hb h.frame.1), h.frame.2 b hb hn]
  intro j f m hj hf hm hmb
  rcases h.kept j f m hj hf hm with h1 | ⟨i, e, l, hi, he, hl, hlm⟩
  ·omega
  ·exact hn i e l hi he hl (hlm.trans hmb)
 ·rcases h'.kept j f m hj hf hm with h1 | ⟨i, e, l, hi, he, hl, hlm⟩
  ·exact .inl (Nat.le_trans h.frame.1 h1)
  ·rcases h.kept i e l hi he hl with h2 | ⟨i', e', l', hi', he', hl', hlm'⟩
   ·exact .inl (hlm ▸ h2)
   ·exact .inr ⟨i', e', l', hi', he', hl', hlm'.trans hlm⟩
theorem Rel.of_heap {α : Place} {S : St} {w w' : World} (h : Rel α S w) (e : w'.heap = w.heap) : Rel α S w' := by
 refine ⟨fun i x hi => ?_, h.apart, h.fresh, fun i l hl => by rw [e]; exact h.size i l hl, h.glob, h.gle⟩
 obtain ⟨l, hl, he⟩ := h.ent i x hi
 refine ⟨l, hl, ?_⟩
 cases x <;> simpa only [EntRel, e] using he
structure Alike0 (w w' : World) : Prop where
 os : w'.os = w.os
 tape : w'.tape = w.tape
 output : w'.output = w.output
theorem Next.of_heap {α : Place} {S : St} {w w' : World} (h : Rel α S w) (e : w'.heap = w.heap) (k : Alike0 w w') : Next α S w α S w' :=
 ⟨.refl _, h.of_heap e, ⟨by rw [e]; exact Nat.le_refl _, fun b _ _ => by rw [e], k.os, k.tape, k.output⟩, fun j f m hj hf hm => .inr ⟨j, f, m, hj, hf, hm, rfl⟩, Nat.le_refl _, rfl, fun _ _ => rfl, fun _ e h _ => ⟨e, h⟩, fun _ _ h _ => h⟩
theorem EntRel.mono {α β : Place} (h : α.Ext β) {w : World} {l : Loc} {e : Ent} (r : EntRel α w l e) : EntRel β w l e := by
 cases e with
 | row cs esz ro =>
  obtain ⟨h0, c, t, fr, h1, h2, h3, h4, h5⟩ := r
  exact ⟨h0, c, t, fr, h1, h2, h3, h4, fun i v hv => let ⟨v', a, b⟩ := h5 i v hv; ⟨v', a, b.mono h⟩⟩
 | map es clock ro =>
  obtain ⟨h0, es', h1, h2, h3⟩ := r
  exact ⟨h0, es', h1, h2, fun i e e' a b => let ⟨x, y, z⟩ := h3 i e e' a b; ⟨x.mono h, y.mono h, z⟩⟩
 | iter m since seen stepped =>
  obtain ⟨h0, lm, h1, h2⟩ := r
  exact ⟨h0, lm, h _ _ h1, h2⟩
 | siter s pos => exact r
theorem EntRel.of_block {α : Place} {w w' : World} {l : Loc} {e : Ent} (r : EntRel α w l e) (h : w'.heap[l.blk]? = w.heap[l.blk]?) : EntRel α w' l e := by
 cases e <;> simpa only [EntRel, h] using r
end Go.Xe
namespace Go.Xe
open Go
def beqBytes : List UInt8 → List UInt8 → Bool
 | [], [] => true
 | a :: x, b :: y => a.toNat == b.toNat && beqBytes x y
 | _, _ => false
def one : Value → Bool
 | .agg _ | .tuple _ => false
 | _ => true
def same1 : Value → Value → Bool
 | .bool a, .bool b => a == b
 | .int k a, .int l b => decide (k = l) && decide (a = b)
 | .float k a, .float l b => decide (k = l) && decide (a = b)
 | .string a, .string b => beqBytes a.data.toList b.data.toList
 | .pointer none, .pointer none => true
 | .pointer (some a), .pointer (some b) => decide (a = b)
 | .slice none a b, .slice none c d => decide (a = c) && decide (b = d)
 | .slice (some x) a b, .slice (some y) c d => decide (x = y) && decide (a = c) && decide (b = d)
 | .map none, .map none => true
 | .map (some a), .map (some b) => decide (a = b)
 | .nilFunc, .nilFunc => true
 | .nilIface, .nilIface => true
 | .iface t (.string a), .iface u (.string b) => decide (t = u) && beqBytes a.data.toList b.data.toList
 | .iface t (.int k a), .iface u (.int l b) => decide (t = u) && decide (k = l) && decide (a = b)
 | .iface t (.pointer (some a)), .iface u (.pointer (some b)) => decide (t = u) && decide (a = b)
 | _, _ => false
def sameL : List Value → List Value → Bool
 | [], [] => true
 | a :: x, b :: y => same1 a b && sameL x y
 | _, _ => false
def sameA : Value → Value → Bool
 | .agg a, .agg b => sameL a.toList b.toList
 | a, b => same1 a b
def sameM : List Value → List Value → Bool
 | [], [] => true
 | a :: x, b :: y => sameA a b && sameM x y
 | _, _ => false
def same : Value → Value → Bool
 | .agg a, .agg b => sameL a.toList b.toList
 | .tuple a, .tuple b => sameM a.toList b.toList
 | .func f a b, .func g c d => decide (f = g) && sameL a.toList c.toList && sameL b.toList d.toList
 | a, b => same1 a b
def splice (l : List Value) (o : Nat) (vs : List Value) : List Value := l.take o ++ vs ++ l.drop (o + vs.length)
namespace St
def new (S : St) (e : Ent) : St := { S with heap := S.heap.set S.next (some e), next := S.next + 1 }
def put (S : St) (i : Nat) (e : Ent) : St := { S with heap := S.heap.set i (some e) }
def kill (S : St) (i : Nat) : St := { S with heap := S.heap.set i none }
def loadN (S : St) (i o n : Nat) : Option (List Value) :=
 match S.heap.get i with
 | some (.row cs _ _) => if o + n ≤ cs.length then some ((cs.drop o).take n) else none
 | _ => none
def load1 (S : St) (i o : Nat) : Option Value :=
 match S.heap.get i with
 | some (.row cs _ _) => cs[o]?
 | _ => none
def storeN (S : St) (i o : Nat) (vs : List Value) : Option St :=
 match S.heap.get i with
 | some (.row cs esz false) => if o + vs.length ≤ cs.length ∧ vs.all one = true then some (S.put i (.row (splice cs o vs) esz false)) else none
 | _ => none
def store1 (S : St) (i o : Nat) (v : Value) : Option St :=
 match S.heap.get i with
 | some (.row cs esz false) => if o < cs.length ∧ one v = true then some (S.put i (.row (cs.set o v) esz false)) else none
 | _ => none
def row (S : St) (cs : List Value) (esz : Nat) : Option St := if cs.all one = true then some (S.new (.row cs esz false)) else none
end St
section
variable (P : Program)
def sizeT (t : TypeId) : Option Nat := (P.info? t).map (·.size)
def bytesT (t : TypeId) : Option Nat := (P.info? t).map (·.bytes)
def aggT (t : TypeId) : Option Bool :=
 match P.underlying t with
 | some (.struct _) => some true
 | some (.array _ _) => some true
 | some _ => some false
 | none => none
def zeroT (t : TypeId) : Option Value :=
 match P.info? t with
 | some i => match i.zero with
  | some v => if plain v then some v else none
  | none => none
 | none => none
def eszT (t : TypeId) : Nat :=
 match P.underlying t with
 | some (.array _ e) => (sizeT P e).getD 0
 | _ => 0
def xload (S : St) (t : TypeId) (a : Value) : Option Value :=
 match a with
 | .pointer (some ⟨i, o, none⟩) =>
  match aggT P t with
  | some true => match sizeT P t with
   | some n => match S.loadN i o n with
    | some l => some (.agg l.toArray)
    | none => none
   | none => none
  | some false => S.load1 i o
  | none => none
 | _ => none
def xstore (S : St) (t : TypeId) (a v : Value) : Option St :=
 match a with
 | .pointer (some ⟨i, o, none⟩) =>
  match v with
  | .agg cs => if sizeT P t = some cs.size then S.storeN i o cs.toList else none
  | v => if sizeT P t = some 1 then S.store1 i o v else none
 | _ => none
def xnewVar (S : St) (t : TypeId) (v : Value) : Option (Value × St) :=
 match S.row v.cells.toList (eszT P t) with
 | some S' => some (.pointer (some ⟨S.next, 0, none⟩), S')
 | none => none
def xfill (place : Nat → Option (Nat × Nat)) (cells : List Value) : List (Nat × Value) → Option (List Value)
 | [] => some cells
 | (i, v) :: rest =>
  match place i with
  | none => none
  | some (off, size) => if v.cells.size ≠ size ∨ off + size > cells.length then none else xfill place (splice cells off v.cells.toList) rest
def xplaces (fields : List Field) : Option (List (Nat × Nat)) :=
 match fields with
 | [] => some []
 | f :: r => match sizeT P f.type, xplaces r with
  | some s, some l => some ((f.offset, s) :: l)
  | _, _ => none
def xbuild (t : TypeId) (parts : List (Nat × Value)) : Option Value :=
 match zeroT P t, P.underlying t with
 | some z, some (.struct fields) => match xplaces P fields.toList with
  | some places => match xfill (fun i => places[i]?) z.cells.toList parts with
   | some l => some (.agg l.toArray)
   | none => none
  | none => none
 | some z, some (.array _ elem) => match sizeT P elem with
  | some size => match xfill (fun i => some (i * size, size)) z.cells.toList parts with
   | some l => some (.agg l.toArray)
   | none => none
  | none => none
 | _, _ => none
def zerosL (z : List Value) : Nat → List Value
 | 0 => []
 | n + 1 => z ++ zerosL z n
def xbuildSlice (S : St) (t : TypeId) (len : Nat) (parts : List (Nat × Value)) : Option (Value × St) :=
 match P.underlying t with
 | some (.slice elem) => match sizeT P elem, zeroT P elem with
  | some size, some z =>
   if len * size > 2 ^ 24 ∨ size = 0 ∨ z.cells.size ≠ size then none else
   match xfill (fun i => some (i * size, size)) (zerosL z.cells.toList len) parts with
   | some l => match S.row l size with
    | some S' => some (.slice (some ⟨S.next, 0, none⟩) len len, S')
    | none => none
   | none => none
  | _, _ => none
 | _ => none
def xmakeSlice (S : St) (t : TypeId) (l c : Value) : Option (Value × St) :=
 match l, c with
 | .int _ len, .int _ cap =>
  match P.underlying t with
  | some (.slice elem) => match sizeT P elem, bytesT P elem, zeroT P elem with
   | some size, some bytes, some z =>
    if IntKind.i64.wrap len = len ∧ IntKind.i64.wrap cap = cap ∧ 0 ≤ len ∧ len ≤ cap ∧ (bytes : Int) * cap ≤ 2 ^ 48 ∧ size ≠ 0 ∧ z.cells.size = size then
     match S.row (zerosL z.cells.toList cap.toNat) size with
     | some S' => some (.slice (some ⟨S.next, 0, none⟩) len.toNat cap.toNat, S')
     | none => none
    else none
   | _, _, _ => none
  | _ => none
 | _, _ => none
def xfieldAddr (s : TypeId) (a : Value) (f : Nat) : Option Value :=
 match a with
 | .pointer (some ⟨i, o, none⟩) => match P.underlying s with
  | some (.struct fields) => match fields[f]? with
   | some fd => match sizeT P fd.type with
    | some 0 => none
    | some _ => some (.pointer (some ⟨i, o + fd.offset, none⟩))
    | none => none
   | none => none
  | _ => none
 | _ => none
def xindexAddr (t : TypeId) (x ix : Value) : Option Value :=
 match ix with
 | .int _ i => match P.underlying t, x with
  | some (.slice elem), .slice (some ⟨b, o, none⟩) len _ =>
   if 0 ≤ i ∧ i < (len : Int) then match sizeT P elem with
    | some s => some (.pointer (some ⟨b, o + i.toNat * s, none⟩))
    | none => none
   else none
  | some (.array len elem), .pointer (some ⟨b, o, none⟩) =>
   if 0 ≤ i ∧ i < (len : Int) then match sizeT P elem with
    | some s => some (.pointer (some ⟨b, o + i.toNat * s, none⟩))
    | none => none
   else none
  | _, _ => none
 | _ => none
def xpart (t : TypeId) (cs : List Value) (off : Nat) : Option Value :=
 match aggT P t with
 | some true => match sizeT P t with
  | some n => some (.agg ((cs.drop off).take n).toArray)
  | none => none
 | some false => cs[off]?
 | none => none
def xfield (t : TypeId) (x : Value) (f : Nat) : Option Value :=
 match x, P.underlying t with
 | .agg cs, some (.struct fields) => match fields[f]? with
  | some fd => xpart P fd.type cs.toList fd.offset
  | none => none
 | _, _ => none
def xindex (t : TypeId) (x ix : Value) : Option Value :=
 match ix with
 | .int _ i => match P.underlying t, x with
  | some (.array len elem), .agg cs =>
   if 0 ≤ i ∧ i < (len : Int) then match sizeT P elem with
    | some s => xpart P elem cs.toList (i.toNat * s)
    | none => none
   else none
  | some .string, .string s => if 0 ≤ i then match s.data.toList[i.toNat]? with
   | some b => some (.int .u8 b.toNat)
   | none => none
   else none
  | _, _ => none
 | _ => none
def xbounds (len cap : Nat) (lo hi mx : Option Value) : Option (Nat × Nat × Nat) :=
 let m : Option Nat := match mx with
  | none => some cap
  | some (.int _ i) => if 0 ≤ i ∧ i ≤ (cap : Int) then some i.toNat else none
  | some _ => none
 match m with
 | none => none
 | some m =>
  let h : Option Nat := match hi, mx with
   | none, none => some len
   | none, some _ => none
   | some (.int _ i), _ => if 0 ≤ i ∧ i ≤ (m : Int) then some i.toNat else none
   | some _, _ => none
  match h with
  | none => none
  | some h =>
   let l : Option Nat := match lo with
    | none => some 0
    | some (.int _ i) => if 0 ≤ i ∧ i ≤ (h : Int) then some i.toNat else none
    | some _ => none
   match l with
   | none => none
   | some l => some (l, h, m)
def xslice (S : St) (t : TypeId) (x : Value) (lo hi mx : Option Value) : Option Value :=
 match P.underlying t, x with
 | some .string, .string s =>
  if mx.isSome then none else
  match xbounds s.data.toList.length s.data.toList.length lo hi none with
  | some (l, h, _) => some (.string ⟨((s.data.toList.take h).drop l).toArray⟩)
  | none => none
 | some (.slice e), .slice none 0 0 =>
  match xbounds 0 0 lo hi mx, sizeT P e with
  | some _, some _ => some (.slice none 0 0)
  | _, _ => none
 | some (.slice elem), .slice (some ⟨b, o, none⟩) len cap =>
  match xbounds len cap lo hi mx, sizeT P elem, S.heap.get b with
  | some (l, h, m), some s, some (.row _ esz _) => if esz = s ∧ s ≠ 0 then some (.slice (some ⟨b, o + l * s, none⟩) (h - l) (m - l)) else none
  | _, _, _ => none
 | some (.array n elem), .pointer (some ⟨b, o, none⟩) =>
  match xbounds n n lo hi mx, sizeT P elem, S.heap.get b with
  | some (l, h, m), some s, some (.row cs esz _) => if esz = s ∧ s ≠ 0 ∧ o + n * s ≤ cs.length then some (.slice (some ⟨b, o + l * s, none⟩) (h - l) (m - l)) else none
  | _, _, _ => none
 | some (.pointer arr), .pointer (some ⟨b, o, none⟩) =>
  match P.underlying arr with
  | some (.array n elem) =>
   match xbounds n n lo hi mx, sizeT P elem, S.heap.get b with
   | some (l, h, m), some s, some (.row cs esz _) => if esz = s ∧ s ≠ 0 ∧ o + n * s ≤ cs.length then some (.slice (some ⟨b, o + l * s, none⟩) (h - l) (m - l)) else none
   | _, _, _ => none
  | _ => none
 | _, _ => none
def xint (op : BinOp) (k : IntKind) (a b : Int) : Option Value :=
 match op with
 | .add => some (.int k (k.wrap (a + b)))
 | .sub => some (.int k (k.wrap (a - b)))
 | .mul => some (.int k (k.wrap (a * b)))
 | .quo => if b = 0 then none else some (.int k (k.wrap (a.tdiv b)))
 | .rem => if b = 0 then none else some (.int k (a.tmod b))
 | .and => some (.int k (k.wrap (BitVec.ofInt k.bits a &&& BitVec.ofInt k.bits b).toNat))
 | .or => some (.int k (k.wrap (BitVec.ofInt k.bits a ||| BitVec.ofInt k.bits b).toNat))
 | .xor => some (.int k (k.wrap (BitVec.ofInt k.bits a ^^^ BitVec.ofInt k.bits b).toNat))
 | .andNot => some (.int k (k.wrap (BitVec.ofInt k.bits a &&& ~~~ BitVec.ofInt k.bits b).toNat))
 | .eql => some (.bool (decide (a = b)))
 | .neq => some (.bool (!decide (a = b)))
 | .lss => some (.bool (decide (a < b)))
 | .leq => some (.bool (decide (a ≤ b)))
 | .gtr => some (.bool (decide (b < a)))
 | .geq => some (.bool (decide (b ≤ a)))
 | _ => none
def xshift (op : BinOp) (k : IntKind) (x y : Int) : Option Value :=
 if y < 0 then none else
 match op with
 | .shl => some (.int k (k.wrap (x * 2 ^ min y.toNat k.bits)))
 | .shr => some (.int k (x.fdiv (2 ^ min y.toNat k.bits)))
 | _ => none
def lessL : List UInt8 → List UInt8 → Bool
 | _, [] => false
 | [], _ :: _ => true
 | a :: x, b :: y => decide (a.toNat < b.toNat) || (a.toNat == b.toNat && lessL x y)
def xstr (op : BinOp) (x y : ByteArray) : Option Value :=
 let a := x.data.toList
 let b := y.data.toList
 match op with
 | .add => if a.length + b.length ≤ 9223372036854775807 then some (.string ⟨(a ++ b).toArray⟩) else none
 | .eql => some (.bool (beqBytes a b))
 | .neq => some (.bool (!beqBytes a b))
 | .lss => some (.bool (lessL a b))
 | .leq => some (.bool (lessL a b || beqBytes a b))
 | .gtr => some (.bool (!(lessL a b || beqBytes a b)))
 | .geq => some (.bool (!lessL a b))
 | _ => none
def xeqF (eq : TypeId → Value → Value → Option Bool) : List Field → List Value → List Value → Option Bool
 | [], _, _ => some true
 | f :: r, xs, ys =>
  if f.name = "_" then xeqF eq r xs ys else
  match xpart P f.type xs f.offset, xpart P f.type ys f.offset with
  | some a, some b => match eq f.type a b with
   | some true => xeqF eq r xs ys
   | some false => some false
   | none => none
  | _, _ => none
def xeq : Nat → TypeId → Value → Value → Option Bool
 | 0, _, _, _ => none
 | d + 1, t, x, y =>
  match P.underlying t, x, y with
  | some .bool, .bool a, .bool b => some (a == b)
  | some (.int _), .int k a, .int k' b => if k = k' then some (decide (a = b)) else none
  | some .string, .string a, .string b => some (beqBytes a.data.toList b.data.toList)
  | some (.pointer _), .pointer none, .pointer b => some b.isNone
  | some (.pointer _), .pointer (some _), .pointer none => some false
  | some (.pointer e), .pointer (some ⟨i, o, none⟩), .pointer (some ⟨j, q, none⟩) =>
   match sizeT P e with
   | some 0 => none
   | some _ => if i = j then some (decide (o = q)) else none
   | none => none
  | some (.interface _), .nilIface, .iface _ _ => some false
  | some (.interface _), .iface _ _, .nilIface => some false
  | some (.interface _), .nilIface, .nilIface => some true
  | some (.interface _), .iface tx vx, .iface ty vy =>
   if tx ≠ ty then some false else
   match P.info? tx with
   | some i => if i.comparable then xeq d tx vx vy else none
   | none => none
  | some (.struct fields), .agg xs, .agg ys => if P.stoodInHeld t then none else xeqF P (xeq d) fields.toList xs.toList ys.toList
  | some (.slice _), .slice none _ _, .slice b _ _ => some b.isNone
  | some (.slice _), .slice (some _) _ _, .slice none _ _ => some false
  | some (.map _ _), .map none, .map b => some b.isNone
  | some (.map _ _), .map (some _), .map none => some false
  | some (.func _ _ _), .nilFunc, .nilFunc => some true
  | some (.func _ _ _), .nilFunc, .func _ _ _ => some false
  | some (.func _ _ _), .func _ _ _, .nilFunc => some false
  | _, _, _ => none
def isConst : Operand → Bool
 | .const _ => true
 | _ => false
def eqOk (t : TypeId) (c : Bool) (x y : Value) : Bool :=
 match x, y with
 | .nilIface, .nilIface => c
 | .agg _, .agg _ => !P.eqGuardType P.depth t
 | _, _ => true
def xbin (op : BinOp) (t : TypeId) (c : Bool) (x y : Value) : Option Value :=
 match op, x, y with
 | .shl, .int k a, .int _ b => xshift .shl k a b
 | .shr, .int k a, .int _ b => xshift .shr k a b
 | op, .int k a, .int k' b => if k = k' then xint op k a b else none
 | _, .float _ _, _ => none
 | _, .complex _ _ _, _ => none
 | op, .string a, .string b => xstr op a b
 | .eql, x, y => if eqOk P t c x y then (match xeq P 12 t x y with | some b => some (.bool b) | none => none) else none
 | .neq, x, y => if eqOk P t c x y then (match xeq P 12 t x y with | some b => some (.bool (!b)) | none => none) else none
 | _, _, _ => none
def xun (op : UnOp) (x : Value) : Option Value :=
 match op, x with
 | .neg, .int k n => some (.int k (k.wrap (0 - n)))
 | .xor, .int k n => xint .xor k (if k.signed then -1 else k.max) n
 | .not, .bool b => some (.bool (!b))
 | _, _ => none
def byteVals (l : List UInt8) : List Value := l.map fun b => .int .u8 b.toNat
def valBytes : List Value → Option (List UInt8)
 | [] => some []
 | .int .u8 n :: r => match valBytes r with
  | some l => some (UInt8.ofNat n.toNat :: l)
  | none => none
 | _ => none
def xconvert (S : St) (src dst : TypeId) (x : Value) : Option (Value × St) :=
 match P.underlying src, P.underlying dst, x with
 | some _, some (.int k), .int _ n => some (.int k (k.wrap n), S)
 | some _, some .string, .int _ n => some (.string (Utf8.encode n), S)
 | some _, some .string, .string s => some (.string s, S)
 | some _, some (.slice e), .string s =>
  match P.underlying e with
  | some (.int .u8) => match S.row (byteVals s.data.toList) 1 with
   | some S' => some (.slice (some ⟨S.next, 0, none⟩) s.data.toList.length s.data.toList.length, S')
   | none => none
  | _ => none
 | some (.slice _), some (.slice e), .slice (some ⟨b, o, none⟩) len cap =>
  if src = dst ∧ 0 < cap then match P.underlying e with
   | some (.int .u8) => match S.heap.get b with
    | some (.row _ _ false) => some (.slice (some ⟨b, o, none⟩) len cap, S)
    | _ => none
   | _ => none
  else none
 | some (.slice e), some .string, .slice none 0 0 =>
  match P.underlying e with
  | some (.int .u8) => some (.string ⟨#[]⟩, S)
  | _ => none
 | some (.slice e), some .string, .slice (some ⟨b, o, none⟩) len _ =>
  match P.underlying e with
  | some (.int .u8) =>
   if len = 0 then some (.string ⟨#[]⟩, S) else
   match S.heap.get b with
   | some (.row _ esz _) => if esz = 1 then
    match S.loadN b o len with
    | some l => match valBytes l with
     | some bs => some (.string ⟨bs.toArray⟩, S)
     | none => none
    | none => none
    else none
   | _ => none
  | _ => none
 | _, _, _ => none
def xfirst (S : St) (size n : Nat) (x : Value) : Option (List Value) :=
 if n = 0 then some [] else
 match x with
 | .slice (some ⟨b, o, none⟩) _ _ => S.loadN b o (n * size)
 | .string s => if size = 1 then some (byteVals (s.data.toList.take n)) else none
 | _ => none
def xlenOf (x : Value) : Option Nat :=
 match x with
 | .slice _ n _ => some n
 | .string s => some s.data.toList.length
 | _ => none
def xappend (S : St) (ts : List TypeId) (args : List Value) : Option (Value × St) :=
 match ts, args with
 | [t, u], [s, x] =>
  match P.underlying t, P.underlying u with
  | some (.slice _), some (.int _) => none
  | some (.slice elem), some _ =>
   match sizeT P elem, bytesT P elem, zeroT P elem, xlenOf x with
   | some size, some bytes, some z, some n =>
    if size = 0 ∨ z.cells.size ≠ size then none else
    match xfirst S size n x with
    | some new =>
     match s with
     | .slice none 0 0 =>
      if n = 0 then some (.slice none 0 0, S) else
      if n * bytes ≤ 2 ^ 47 ∧ (n : Int) ≤ IntKind.i64.max then
       match S.row new size with
       | some S' => some (.slice (some ⟨S.next, 0, none⟩) n n, S')
       | none => none
      else none
     | .slice (some ⟨b, o, none⟩) len cap =>
      match S.heap.get b with
      | some (.row cs esz ro) =>
       if esz ≠ size ∨ ro = true ∨ len > cap then none else
       if n = 0 then some (.slice (some ⟨b, o, none⟩) len cap, S) else
       if len + n ≤ cap then
        match S.storeN b (o + len * size) new with
        | some S' => some (.slice (some ⟨b, o, none⟩) (len + n) cap, S')
        | none => none
       else if (len + n) * bytes ≤ 2 ^ 47 ∧ ((len + n : Nat) : Int) ≤ IntKind.i64.max ∧ o + len * size ≤ cs.length then
        match (S.kill b).row ((cs.drop o).take (len * size) ++ new) size with
        | some S' => some (.slice (some ⟨S.next, 0, none⟩) (len + n) (len + n), S')
        | none => none
       else none
      | _ => none
     | _ => none
    | none => none
   | _, _, _, _ => none
  | _, _ => none
 | _, _ => none
def xcopy (S : St) (ts : List TypeId) (args : List Value) : Option (Value × St) :=
 match ts, args with
 | t :: _, [d, x] =>
  match P.underlying t with
  | some (.slice elem) =>
   match sizeT P elem, xlenOf x, d with
   | some size, some n, .slice none _ _ => if size = 0 then none else match xfirst S size (min n 0) x with
    | some _ => some (.int .i64 0, S)
    | none => none
   | some size, some n, .slice (some ⟨b, o, none⟩) len _ =>
    if size = 0 then none else
    match xfirst S size (min n len) x with
    | some l => if min n len = 0 then some (.int .i64 0, S) else match S.storeN b o l with
     | some S' => some (.int .i64 (min n len : Nat), S')
     | none => none
    | none => none
   | _, _, _ => none
  | _ => none
 | _, _ => none
def xlen (S : St) (ts : List TypeId) (args : List Value) : Option Value :=
 match ts, args with
 | [t], [x] =>
  match P.underlying t, x with
  | some .string, .string s => some (.int .i64 s.data.toList.length)
  | some (.array n _), _ => some (.int .i64 n)
  | some (.slice _), .slice _ n _ => some (.int .i64 n)
  | some (.map _ _), .map none => some (.int .i64 0)
  | some (.map _ _), .map (some r) => match S.heap.get r with
   | some (.map es _ _) => some (.int .i64 es.length)
   | _ => none
  | _, _ => none
 | _, _ => none
def min2 (x y : Value) : Option Value :=
 match x, y with
 | .int k a, .int _ b => some (.int k (if b < a then b else a))
 | _, _ => none
def max2 (x y : Value) : Option Value :=
 match x, y with
 | .int k a, .int _ b => some (.int k (if a < b then b else a))
 | _, _ => none
def fold2 (f : Value → Value → Option Value) : Value → List Value → Option Value
 | x, [] => some x
 | x, y :: r => match f x y with
  | some z => fold2 f z r
  | none => none
def keySame (kind : TypeDesc) (a b : Value) : Option Bool :=
 match kind, a, b with
 | .int _, .int k x, .int k' y => if k = k' then some (decide (x = y)) else none
 | .string, .string x, .string y => some (beqBytes x.data.toList y.data.toList)
 | .bool, .bool x, .bool y => some (x == y)
 | _, _, _ => none
def xfind (kind : TypeDesc) (k : Value) : List MapEntry → Nat → Option (Option (Nat × Value))
 | [], _ => some none
 | e :: es, i => match keySame kind k e.key with
  | some true => some (some (i, e.val))
  | some false => xfind kind k es (i + 1)
  | none => none
def keyKind : TypeDesc → Bool
 | .int _ | .string | .bool => true
 | _ => false
def xents (S : St) (x : Value) : Option (List MapEntry) :=
 match x with
 | .map none => some []
 | .map (some r) => match S.heap.get r with
  | some (.map es _ _) => some es
  | _ => none
 | _ => none
def xlookup (S : St) (t : TypeId) (x k : Value) (ok : Bool) : Option Value :=
 match P.underlying t with
 | some (.map key elem) =>
  match P.underlying key with
  | some kind =>
   if keyKind kind = false then none else
   match xents S x with
   | none => none
   | some es =>
    match xfind kind k es 0 with
    | none => none
    | some (some (_, v)) => some (if ok then .tuple #[v, .bool true] else v)
    | some none => match zeroT P elem with
     | some z => some (if ok then .tuple #[z, .bool false] else z)
     | none => none
  | none => none
 | _ => none
def setEnt (es : List MapEntry) (i : Nat) (k v : Value) : List MapEntry :=
 match es, i with
 | [], _ => []
 | e :: r, 0 => { e with key := k, val := v } :: r
 | e :: r, i + 1 => e :: setEnt r i k v
def xupdate (S : St) (t : TypeId) (m k v : Value) : Option St :=
 match P.underlying t with
 | some (.map key _) =>
  match P.underlying key, m with
  | some kind, .map (some r) =>
   if keyKind kind = false then none else
   match S.heap.get r with
   | some (.map es clock false) =>
    match xfind kind k es 0 with
    | none => none
    | some (some (i, _)) => some (S.put r (.map (setEnt es i k v) clock false))
    | some none => some (S.put r (.map (es ++ [{ key := k, val := v, born := clock }]) (clock + 1) false))
   | _ => none
  | _, _ => none
 | _ => none
def xdelete (S : St) (ts : List TypeId) (args : List Value) : Option (Value × St) :=
 match ts, args with
 | t :: _, [m, k] =>
  match P.underlying t with
  | some (.map key _) =>
   match P.underlying key, m with
   | some kind, .map (some r) =>
    if keyKind kind = false then none else
    match S.heap.get r with
    | some (.map es clock false) =>
     match xfind kind k es 0 with
     | none => none
     | some (some (i, _)) => some (.tuple #[], S.put r (.map (es.eraseIdx i) clock false))
     | some none => some (.tuple #[], S)
    | _ => none
   | some kind, .map none => if keyKind kind then some (.tuple #[], S) else none
   | _, _ => none
  | _ => none
 | _, _ => none
def xclear (S : St) (ts : List TypeId) (args : List Value) : Option (Value × St) :=
 match ts, args with
 | t :: _, [x] =>
  match P.underlying t, x with
  | some (.slice _), .slice _ 0 _ => some (.tuple #[], S)
  | some (.slice elem), .slice (some ⟨b, o, none⟩) n _ =>
   match zeroT P elem, sizeT P elem with
   | some z, some s => if z.cells.size = s ∧ s ≠ 0 then match S.storeN b o (zerosL z.cells.toList n) with
    | some S' => some (.tuple #[], S')
    | none => none
    else none
   | _, _ => none
  | _, _ => none
 | _, _ => none
def xrange (S : St) (t : TypeId) (x : Value) : Option (Value × St) :=
 match P.underlying t, x with
 | some .string, .string s => some (.pointer (some ⟨S.next, 0, none⟩), S.new (.siter s 0))
 | some (.map _ _), .map (some m) => match S.heap.get m with
  | some (.map _ clock _) => some (.pointer (some ⟨S.next, 0, none⟩), S.new (.iter m clock [] clock))
  | _ => none
 | _, _ => none
def xnext (S : St) (it : Value) (isString : Bool) : Option (Value × St) :=
 match it with
 | .pointer (some ⟨r, 0, none⟩) =>
  match S.heap.get r, isString with
  | some (.siter s pos), true =>
   if pos < s.data.toList.length then
    let c := Utf8.decode s pos
    some (.tuple #[.bool true, .int .i64 pos, .int .i32 c.1], S.put r (.siter s (pos + c.2)))
   else some (.tuple #[.bool false], S)
  | some (.iter m since seen last), false =>
   match S.heap.get m with
   | some (.map es clock _) =>
    if !seen.isEmpty && !es.isEmpty && es.all (fun e => decide (last ≤ e.born)) then none else
    let left := es.filter fun e => !seen.contains e.born
    let old := left.filter fun e => decide (e.born < since)
    let new := left.filter fun e => !decide (e.born < since)
    match old, new with
    | [e], [] => some (.tuple #[.bool true, e.key, e.val], S.put r (.iter m since (seen ++ [e.born]) clock))
    | [], [] => some (.tuple #[.bool false], S)
    | _, _ => none
   | _ => none
  | _, _ => none
 | _ => none
def xentry (S : St) (it : Value) : Option Value :=
 match it with
 | .pointer (some ⟨r, 0, none⟩) =>
  match S.heap.get r with
  | some (.iter m _ seen stepped) =>
   match S.heap.get m, seen.getLast? with
   | some (.map es clock _), some stamp =>
    if clock = stepped then match es.find? (fun e => e.born == stamp) with
     | some e => some (.tuple #[e.key, e.val])
     | none => none
    else none
   | _, _ => none
  | _ => none
 | _ => none
def xassert (x : Value) (a : TypeId) (ok : Bool) : Option Value :=
 match P.underlying a, x with
 | some (.interface _), _ => none
 | some _, .nilIface => if ok then (match zeroT P a with | some z => some (.tuple #[z, .bool false]) | none => none) else none
 | some _, .iface t v =>
  if t = a then some (if ok then .tuple #[v, .bool true] else v)
  else if ok then (match zeroT P a with | some z => some (.tuple #[z, .bool false]) | none => none) else none
 | _, _ => none
end
def Place.upd (α : Place) (i : Nat) (l : Loc) : Place := fun j => if j = i then some l else α j
theorem Place.upd_same (α : Place) (i : Nat) (l : Loc) : α.upd i l i = some l := by simp [Place.upd]
theorem Place.upd_ne (α : Place) {i j : Nat} (l : Loc) (h : j ≠ i) : α.upd i l j = α j := by simp [Place.upd, h]
theorem Rel.unused {α : Place} {S : St} {w : World} (h : Rel α S w) : α S.next = none := by
 cases e : α S.next with
 | none => rfl
 | some l => have := h.fresh _ _ e; omega
theorem Rel.ext {α : Place} {S : St} {w : World} (h : Rel α S w) (l : Loc) : α.Ext (α.upd S.next l) := fun i m e => by
 rw [Place.upd_ne]
 ·exact e
 ·intro e'; subst e'; rw [h.unused] at e; cases e
theorem Rel.live_lt {α : Place} {S : St} {w : World} (h : Rel α S w) {i : Nat} {e : Ent} (hi : S.heap.get i = some e) : i < S.next := by
 obtain ⟨l, hl, _⟩ := h.ent i e hi
 exact h.fresh i l hl
theorem Next.new {α : Place} {S : St} {w w' : World} (h : Rel α S w) (e : Ent) (hero : e.ro = false) (o : Obj) (room esz : Nat) (hw : w'.heap = w.heap.push o) (k : Alike0 w w')
 (he : EntRel (α.upd S.next ⟨w.heap.size, 0, room, esz⟩) w' ⟨w.heap.size, 0, room, esz⟩ e) :
 Next α S w (α.upd S.next ⟨w.heap.size, 0, room, esz⟩) (S.new e) w' := by
 have hx := h.ext ⟨w.heap.size, 0, room, esz⟩
 have hb : ∀ b, b < w.heap.size → w'.heap[b]? = w.heap[b]? := fun b hb => by rw [hw, Array.getElem?_push, if_neg (by omega)]
 have hget : ∀ i x, (S.new e).heap.get i = some x → (i = S.next ∧ x = e) ∨ (i ≠ S.next ∧ S.heap.get i = some x) := by
  intro i x hi
  simp only [St.new] at hi
  rw [PT.get_set] at hi
  by_cases hn : i = S.next
  ·rw [if_pos hn] at hi; cases hi; exact .inl ⟨hn, rfl⟩
  ·rw [if_neg hn] at hi; exact .inr ⟨hn, hi⟩
 refine ⟨hx, ⟨?_, ?_, ?_, ?_, ?_, ?_⟩, ⟨by rw [hw]; simp, fun b hb' _ => hb b hb', k.os, k.tape, k.output⟩, ?_, by simp [St.new], rfl, fun i hi => Place.upd_ne _ _ (by omega), ?_, ?_⟩
 ·intro i x hi
  rcases hget i x hi with ⟨rfl, rfl⟩ | ⟨hn, hi1⟩
  ·exact ⟨_, Place.upd_same _ _ _, he⟩
  ·obtain ⟨l, hl, hr⟩ := h.ent i x hi1
   refine ⟨l, by rw [Place.upd_ne _ _ hn]; exact hl, ?_⟩
   exact (hr.mono hx).of_block (hb _ (h.size i l hl))
 ·intro i j x y l m hij hi hj hro hl hm
  rcases hget i x hi with ⟨rfl, rfl⟩ | ⟨hn, hi1⟩
  ·rcases hget j y hj with ⟨rfl, rfl⟩ | ⟨hn', hj1⟩
   ·exact absurd rfl hij
   ·rw [Place.upd_same] at hl; rw [Place.upd_ne _ _ hn'] at hm; cases hl
    have := h.size j m hm
    simp only; omega
  ·rcases hget j y hj with ⟨rfl, rfl⟩ | ⟨hn', hj1⟩
   ·rw [Place.upd_same] at hm; rw [Place.upd_ne _ _ hn] at hl; cases hm
    have := h.size i l hl
    simp only; omega
   ·rw [Place.upd_ne _ _ hn] at hl; rw [Place.upd_ne _ _ hn'] at hm
    exact h.apart i j x y l m hij hi1 hj1 hro hl hm
 ·intro i l hl
  by_cases hn : i = S.next
  ·subst hn; simp [St.new]
  ·rw [Place.upd_ne _ _ hn] at hl; have := h.fresh i l hl; simp only [St.new]; omega
 ·intro i l hl
  rw [hw, Array.size_push]
  by_cases hn : i = S.next
  ·subst hn; rw [Place.upd_same] at hl; cases hl; simp
  ·rw [Place.upd_ne _ _ hn] at hl; have := h.size i l hl; omega
 ·intro i l hg hl
  have := h.gle
  rw [Place.upd_ne _ _ (by simp only [St.new] at hg; omega)] at hl
  exact h.glob i l hg hl
 ·have := h.gle; simp only [St.new]; omega
 ·intro j f m hj hf hm
  rcases hget j f hj with ⟨rfl, rfl⟩ | ⟨hn, hj1⟩
  ·rw [Place.upd_same] at hm; cases hm; exact .inl (Nat.le_refl _)
  ·rw [Place.upd_ne _ _ hn] at hm; exact .inr ⟨j, f, m, hj1, hf, hm, rfl⟩
 ·intro i x hi hlt
  rcases hget i x hi with ⟨rfl, rfl⟩ | ⟨hn, hi1⟩
  ·omega
  ·exact ⟨x, hi1⟩
 ·intro i x hi hr
  rcases hget i x hi with ⟨rfl, rfl⟩ | ⟨hn, hi1⟩
  ·rw [hero] at hr; cases hr
  ·exact hi1
theorem Next.write {α : Place} {S : St} {w w' : World} (h : Rel α S w) {i : Nat} {e0 : Ent} {l : Loc} (hi : S.heap.get i = some e0) (hro : e0.ro = false) (hl : α i = some l)
 (e : Ent) (hero : e.ro = false) (hb : ∀ b, b ≠ l.blk → w'.heap[b]? = w.heap[b]?) (hs : w'.heap.size = w.heap.size) (k : Alike0 w w') (he : EntRel α w' l e) :
 Next α S w α (S.put i e) w' := by
 have hget : ∀ j x, (S.put i e).heap.get j = some x → (j = i ∧ x = e) ∨ (j ≠ i ∧ S.heap.get j = some x) := by
  intro j x hj
  simp only [St.put] at hj
  rw [PT.get_set] at hj
  by_cases hn : j = i
  ·rw [if_pos hn] at hj; cases hj; exact .inl ⟨hn, rfl⟩
  ·rw [if_neg hn] at hj; exact .inr ⟨hn, hj⟩
 refine ⟨.refl _, ⟨?_, ?_, h.fresh, fun j m hm => by rw [hs]; exact h.size j m hm, h.glob, h.gle⟩, ⟨by omega, fun b _ hn => hb b (fun e' => hn i e0 l hi hro hl e'.symm), k.os, k.tape, k.output⟩, ?_, Nat.le_refl _, rfl, fun _ _ => rfl, ?_, ?_⟩
 ·intro j x hj
  rcases hget j x hj with ⟨rfl, rfl⟩ | ⟨hn, hj1⟩
  ·exact ⟨l, hl, he⟩
  ·obtain ⟨m, hm, hr⟩ := h.ent j x hj1
   exact ⟨m, hm, hr.of_block (hb _ (h.apart j i x e0 m l hn hj1 hi (.inr hro) hm hl))⟩
 ·intro j j' x y m m' hij hj hj' hro' hm hm'
  rcases hget j x hj with ⟨rfl, rfl⟩ | ⟨hn, hj1⟩
  ·rcases hget j' y hj' with ⟨rfl, rfl⟩ | ⟨hn', hj1'⟩
   ·exact absurd rfl hij
   ·exact h.apart j j' e0 y m m' hij hi hj1' (.inl hro) hm hm'
  ·rcases hget j' y hj' with ⟨rfl, rfl⟩ | ⟨hn', hj1'⟩
   ·exact h.apart j j' x e0 m m' hij hj1 hi (.inr hro) hm hm'
   ·exact h.apart j j' x y m m' hij hj1 hj1' hro' hm hm'
 ·intro j f m hj hf hm
  rcases hget j f hj with ⟨rfl, rfl⟩ | ⟨hn, hj1⟩
  ·exact .inr ⟨j, e0, m, hi, hro, hm, rfl⟩
  ·exact .inr ⟨j, f, m, hj1, hf, hm, rfl⟩
 ·intro j x hj hlt
  rcases hget j x hj with ⟨rfl, rfl⟩ | ⟨hn, hj1⟩
  ·exact ⟨e0, hi⟩
  ·exact ⟨x, hj1⟩
 ·intro j x hj hr
  rcases hget j x hj with ⟨rfl, rfl⟩ | ⟨hn, hj1⟩
  ·rw [hero] at hr; cases hr
  ·exact hj1
theorem St.get_kill (S : St) (i j : Nat) (x : Ent) (h : (S.kill i).heap.get j = some x) : j ≠ i ∧ S.heap.get j = some x := by
 simp only [St.kill] at h
 rw [PT.get_set] at h
 by_cases hn : j = i
 ·rw [if_pos hn] at h; cases h
 ·rw [if_neg hn] at h; exact ⟨hn, h⟩
theorem Next.kill {α : Place} {S : St} {w : World} (h : Rel α S w) (i : Nat) : Next α S w α (S.kill i) w := by
 refine ⟨.refl _, ⟨fun j x hj => h.ent j x (S.get_kill i j x hj).2, fun j j' x y m m' hij hj hj' => h.apart j j' x y m m' hij (S.get_kill i j x hj).2 (S.get_kill i j' y hj').2, h.fresh, h.size, h.glob, h.gle⟩, .refl _ _ _, ?_, Nat.le_refl _, rfl, fun _ _ => rfl, fun j x hj _ => ⟨x, (S.get_kill i j x hj).2⟩, fun j x hj _ => (S.get_kill i j x hj).2⟩
 intro j f m hj hf hm
 exact .inr ⟨j, f, m, (S.get_kill i j f hj).2, hf, hm, rfl⟩
theorem Next.renew {α : Place} {S : St} {w w' : World} (h : Rel α S w) {i : Nat} {e0 : Ent} {l : Loc} (hi : S.heap.get i = some e0) (hro : e0.ro = false) (hl : α i = some l)
 (e : Ent) (hero : e.ro = false) (l' : Loc) (hl' : l'.blk = l.blk) (hb : ∀ b, b ≠ l.blk → w'.heap[b]? = w.heap[b]?) (hs : w'.heap.size = w.heap.size) (k : Alike0 w w')
 (he : EntRel (α.upd S.next l') w' l' e) : Next α S w (α.upd S.next l') ((S.kill i).new e) w' := by
 have hx := h.ext l'
 have hget : ∀ j x, ((S.kill i).new e).heap.get j = some x → (j = S.next ∧ x = e) ∨ (j ≠ S.next ∧ j ≠ i ∧ S.heap.get j = some x) := by
  intro j x hj
  simp only [St.new] at hj
  rw [PT.get_set] at hj
  by_cases hn : j = (S.kill i).next
  ·rw [if_pos hn] at hj; cases hj; exact .inl ⟨hn, rfl⟩
  ·rw [if_neg hn] at hj
   exact .inr ⟨hn, S.get_kill i j x hj⟩
 refine ⟨hx, ⟨?_, ?_, ?_, ?_, ?_, ?_⟩, ⟨by omega, fun b _ hn => hb b (fun e' => hn i e0 l hi hro hl e'.symm), k.os, k.tape, k.output⟩, ?_, by simp [St.new, St.kill], rfl, fun i hi => Place.upd_ne _ _ (by omega), ?_, ?_⟩
 ·intro j x hj
  rcases hget j x hj with ⟨rfl, rfl⟩ | ⟨hn, hn', hj1⟩
  ·exact ⟨_, Place.upd_same _ _ _, he⟩
  ·obtain ⟨m, hm, hr⟩ := h.ent j x hj1
   refine ⟨m, by rw [Place.upd_ne _ _ hn]; exact hm, ?_⟩
   exact (hr.mono hx).of_block (hb _ (h.apart j i x e0 m l hn' hj1 hi (.inr hro) hm hl))
 ·intro j j' x y m m' hij hj hj' hro' hm hm'
  rcases hget j x hj with ⟨rfl, rfl⟩ | ⟨hn, hni, hj1⟩
  ·rcases hget j' y hj' with ⟨rfl, rfl⟩ | ⟨hn', hni', hj1'⟩
   ·exact absurd rfl hij
   ·rw [Place.upd_same] at hm; cases hm; rw [Place.upd_ne _ _ hn'] at hm'
    rw [hl']; exact h.apart i j' e0 y l m' (Ne.symm hni') hi hj1' (.inl hro) hl hm'
  ·rcases hget j' y hj' with ⟨rfl, rfl⟩ | ⟨hn', hni', hj1'⟩
   ·rw [Place.upd_same] at hm'; cases hm'; rw [Place.upd_ne _ _ hn] at hm
    rw [hl']; exact h.apart j i x e0 m l hni hj1 hi (.inr hro) hm hl
   ·rw [Place.upd_ne _ _ hn] at hm; rw [Place.upd_ne _ _ hn'] at hm'
    exact h.apart j j' x y m m' hij hj1 hj1' hro' hm hm'
 ·intro j m hm
  by_cases hn : j = S.next
  ·subst hn; simp [St.new, St.kill]
  ·rw [Place.upd_ne _ _ hn] at hm; have := h.fresh j m hm; simp only [St.new, St.kill]; omega
 ·intro j m hm
  rw [hs]
  by_cases hn : j = S.next
  ·subst hn; rw [Place.upd_same] at hm; cases hm; rw [hl']; exact h.size i l hl
  ·rw [Place.upd_ne _ _ hn] at hm; exact h.size j m hm
 ·intro j m hg hm
  have := h.gle
  rw [Place.upd_ne _ _ (by simp only [St.new, St.kill] at hg; omega)] at hm
  exact h.glob j m hg hm
 ·have := h.gle; simp only [St.new, St.kill]; omega
 ·intro j f m hj hf hm
  rcases hget j f hj with ⟨rfl, rfl⟩ | ⟨hn, _, hj1⟩
  ·rw [Place.upd_same] at hm; cases hm; exact .inr ⟨i, e0, l, hi, hro, hl, hl'.symm⟩
  ·rw [Place.upd_ne _ _ hn] at hm; exact .inr ⟨j, f, m, hj1, hf, hm, rfl⟩
 ·intro j x hj hlt
  rcases hget j x hj with ⟨rfl, rfl⟩ | ⟨hn, _, hj1⟩
  ·omega
  ·exact ⟨x, hj1⟩
 ·intro j x hj hr
  rcases hget j x hj with ⟨rfl, rfl⟩ | ⟨hn, _, hj1⟩
  ·rw [hero] at hr; cases hr
  ·exact hj1
theorem add_eq (b o n : Nat) : (⟨b, o, none⟩ : Addr).add n = ⟨b, o + n, none⟩ := by
 unfold Addr.add; split
 ·subst_vars; rfl
 ·rfl
section
variable {α : Place} {S : St} {w : World} {P : Program}
theorem Rel.cells (h : Rel α S w) {i : Nat} {l : Loc} (hl : α i = some l) {cs : List Value} {esz : Nat} {ro : Bool} (hi : S.heap.get i = some (.row cs esz ro)) :
 esz = l.esz ∧ ∃ (c : Array Value) (e : TypeId) (fr : Nat × Nat), w.heap[l.blk]? = some (.cells c e fr) ∧ l.off + l.room ≤ c.size ∧ cs.length ≤ l.room ∧
  (ro = false → Free c.size fr) ∧
  ∀ (j : Nat) v, cs[j]? = some v → ∃ v', c[l.off + j]? = some v' ∧ VRel α v v' := by
 obtain ⟨m, hm, hr⟩ := h.ent i _ hi
 rw [hl] at hm; cases hm
 exact hr
theorem cell_of {c : Array Value} {e : TypeId} {fr : Nat × Nat} {b o : Nat} (hb : w.heap[b]? = some (.cells c e fr)) : w.cell? ⟨b, o, none⟩ = c[o]? := by
 simp [World.cell?, hb]
theorem Rel.loadN (h : Rel α S w) {i o n : Nat} {l : Loc} (hl : α i = some l) {vs : List Value} (hv : S.loadN i o n = some vs) :
 ∃ vs', LRel α vs vs' ∧ vs.length = n ∧ (loadCells ⟨l.blk, l.off + o, none⟩ n).run P w = .ok vs'.toArray w := by
 unfold St.loadN at hv
 split at hv
 ·rename_i cs esz ro hi
  split at hv
  ·rename_i hlen
   cases hv
   obtain ⟨_, c, e, fr, hb, hsz, hcl, _, hc⟩ := h.cells hl hi
   have hget : ∀ j, j < n → ∃ v v', cs[o + j]? = some v ∧ c[l.off + (o + j)]? = some v' ∧ VRel α v v' := by
    intro j hj
    obtain ⟨v', h1, h2⟩ := hc (o + j) cs[o + j] (List.getElem?_eq_getElem (by omega))
    exact ⟨_, v', List.getElem?_eq_getElem (by omega), h1, h2⟩
   refine ⟨((c.toList.drop (l.off + o)).take n), ⟨?_, ?_⟩, by simp; omega, ?_⟩
   ·simp; omega
   ·intro j v v' h1 h2
    rw [List.getElem?_take] at h1 h2
    by_cases hj : j < n
    ·rw [if_pos hj, List.getElem?_drop] at h1 h2
     obtain ⟨a, a', g1, g2, g3⟩ := hget j hj
     rw [g1] at h1; cases h1
     rw [Array.getElem?_toList, show l.off + o + j = l.off + (o + j) by omega, g2] at h2; cases h2
     exact g3
    ·rw [if_neg hj] at h1; cases h1
   ·have hlen' : ((c.toList.drop (l.off + o)).take n).length = n := by simp; omega
    have := run_loadCells_list (P := P) w ⟨l.blk, l.off + o, none⟩ ((c.toList.drop (l.off + o)).take n) (fun j v hj => by
     rw [add_eq, cell_of hb]
     rw [List.getElem?_take] at hj
     by_cases hjn : j < n
     ·rw [if_pos hjn, List.getElem?_drop, Array.getElem?_toList] at hj; exact hj
     ·rw [if_neg hjn] at hj; cases hj)
    rwa [hlen'] at this
  ·cases hv
 ·cases hv
theorem Rel.load1 (h : Rel α S w) {i o : Nat} {l : Loc} (hl : α i = some l) {v : Value} (hv : S.load1 i o = some v) :
 ∃ v', VRel α v v' ∧ (load ⟨l.blk, l.off + o, none⟩).run P w = .ok v' w := by
 unfold St.load1 at hv
 split at hv
 ·rename_i cs esz ro hi
  obtain ⟨_, c, e, fr, hb, hsz, hcl, _, hc⟩ := h.cells hl hi
  obtain ⟨v', h1, h2⟩ := hc o v hv
  refine ⟨v', h2, ?_⟩
  rw [run_load, cell_of hb, h1]
 ·cases hv
end
theorem Rel.weaken {α : Place} {S T : St} {w : World} (h : Rel α S w) (hs : ∀ i e, T.heap.get i = some e → S.heap.get i = some e) (hn : T.next = S.next) (hg : T.glob = S.glob) : Rel α T w :=
 ⟨fun i e hi => h.ent i e (hs i e hi), fun i j e f l m hij hi hj => h.apart i j e f l m hij (hs i e hi) (hs j f hj), fun i l hl => by rw [hn]; exact h.fresh i l hl, h.size,
  fun i l hi => h.glob i l (hg ▸ hi), by rw [hg, hn]; exact h.gle⟩
theorem Next.same {α β : Place} {S T T' : St} {w w' : World} (n : Next α S w β T w') (h1 : ∀ i e, T'.heap.get i = some e → T.heap.get i = some e) (hn : T'.next = T.next) (hg : T'.glob = T.glob) : Next α S w β T' w' :=
 ⟨n.ext, n.rel.weaken h1 hn hg, n.frame, fun j f m hj => n.kept j f m (h1 j f hj), by rw [hn]; exact n.next, by rw [hg]; exact n.glob, n.old, fun i e hi => n.ids i e (h1 i e hi), fun i e hi => n.ros i e (h1 i e hi)⟩
end Go.Xe
