/- A part of the proof. -/
import Derived.Test.YtkhjbbigangbdaaGreatDoorM12
import Derived.Test.YtkhjbbigangbdaaGreatDoorM13
set_option linter.all false
namespace Go.Xe
open Go Go.Proofs
theorem words_call {f : FuncId} {fn : Func} {c : Code} (hf : Tryz.prog.funcs[f]? = some fn) (hb : fn.body = some c) {a' : XAct} {S' : St} {ws : List Value} (hw : ws.all plain1 = true)
 (h : SR Tryz.prog c (startX fn []) (tri gW (gV ws) none none [] 4) .ret a' S') (hv : xres Tryz.prog fn a' S' = some (.bool true))
 {α : Place} {S : St} {w : World} {args' : Array Value} (hr : Rel α S w) (ha : LRel α [] args'.toList) (h0 : S.heap.get 0 = some gW) (h1 : S.heap.get 1 = some (gV ws)) (hg : 1 ≤ S.glob) :
 Calls Tryz.prog f args' w fun e w' => ∃ β v', e = .returned v' ∧ Next α S w β S w' ∧ VRel β (.bool true) v' := by
 let π : Nat → Nat := fun i => if i < 2 then i else S.next
 have hk : Keeps 2 π := fun j hj => if_pos hj
 have hnone : α S.next = none := hr.unused
 have some_lt : ∀ i l, α (π i) = some l → i < 2 ∧ α i = some l := fun i l hl => by
  by_cases hi : i < 2
  ·exact ⟨hi, by rw [← hk i hi]; exact hl⟩
  ·have : π i = S.next := if_neg hi
   rw [this, hnone] at hl; cases hl
 have hent : ∀ i e, (tri gW (gV ws) none none [] 4).heap.get i = some e → (i = 0 ∧ e = gW) ∨ (i = 1 ∧ e = gV ws) := fun i e hi => by
  rcases get_tri hi with h | h | ⟨_, h⟩ | ⟨_, h⟩ | h
  ·exact .inl h
  ·exact .inr h
  ·cases h
  ·cases h
  ·simp at h
 have hro : ∀ i e, (tri gW (gV ws) none none [] 4).heap.get i = some e → e.ro = true := fun i e hi => by
  rcases hent i e hi with ⟨_, rfl⟩ | ⟨_, rfl⟩ <;> rfl
 have hsm : Rel (fun i => α (π i)) (tri gW (gV ws) none none [] 4) w := by
  refine ⟨fun i e hi => ?_, fun i j e g l m hij hi hj hroo hl hm => ?_, fun i l hl => ?_, fun i l hl => hr.size _ l hl, fun i l hi hl => ?_, Nat.le_of_ble_eq_true rfl⟩
  ·rcases hent i e hi with ⟨rfl, rfl⟩ | ⟨rfl, rfl⟩
   ·obtain ⟨l, hl, he⟩ := hr.ent 0 _ h0
    exact ⟨l, by show α (π 0) = _; rw [hk 0 (by omega)]; exact hl, ((lowE_ren hk rfl : RenE π gW gW).rel α w l).2 he⟩
   ·obtain ⟨l, hl, he⟩ := hr.ent 1 _ h1
    exact ⟨l, by show α (π 1) = _; rw [hk 1 (by omega)]; exact hl, ((RenE.plain hw : RenE π (gV ws) (gV ws)).rel α w l).2 he⟩
  ·rw [hro i e hi, hro j g hj] at hroo
   rcases hroo with h | h <;> cases h
  ·have := (some_lt i l hl).1
   show i < 4; omega
  ·exact hr.glob i l (Nat.lt_of_lt_of_le hi hg) (some_lt i l hl).2
 refine (SR.calls (f := f) (fn := fn) hf hb h (.inr rfl) hv hsm (args' := args') ⟨ha.1, fun i v v' hi => by simp at hi⟩).mono ?_
 rintro x w' ⟨β, v', rfl, hn, hvr⟩
 have hsame : ∀ b, b < w.heap.size → w'.heap[b]? = w.heap[b]? := fun b hb => hn.frame.block b hb (fun i e l hi he => by rw [hro i e hi] at he; cases he)
 refine ⟨α, v', rfl, ⟨.refl α, ⟨fun i e hi => ?_, hr.apart, hr.fresh, fun i l hl => Nat.lt_of_lt_of_le (hr.size i l hl) hn.frame.size, hr.glob, hr.gle⟩, ⟨hn.frame.size, fun b hb _ => hsame b hb, hn.frame.os, hn.frame.tape, hn.frame.output⟩,
  fun j g m hj hg' hm => .inr ⟨j, g, m, hj, hg', hm, rfl⟩, Nat.le_refl _, rfl, fun _ _ => rfl, fun i e hi _ => ⟨e, hi⟩, fun i e hi _ => hi⟩, ?_⟩
 ·obtain ⟨l, hl, he⟩ := hr.ent i e hi
  exact ⟨l, hl, he.of_block (hsame l.blk (hr.size i l hl))⟩
 ·cases hvr; exact .bool _
def orcO97 : Orc := fun f => if f = 25 then some (openOneF 97) else orc3 f
noncomputable def ycO97 : YCall := ygo Tryz.prog okN orcO97 kp 100
def keysF (args : List Value) (S : St) : Y (Value × St) :=
 match args, S.heap.get 0, S.heap.get 1 with
 | [], some (.row [.slice (some ⟨1, 0, none⟩) 12 12] 0 true), some (.row ws 1 true) => .req (decide (1 ≤ S.glob)) (.req (sameL ws wordsL) (.pure (.bool true, S)))
 | _, _, _ => none
def okKey (e : MapEntry) (c : Nat) : Bool :=
 match e.key with
 | .string s => decide (s.size ≤ 1000) && decide (e.born < c)
 | _ => false
def appF (args : List Value) (S : St) : Y (Value × St) :=
 match args with
 | [.slice none 0 0, .func (.func 71) ⟨[]⟩ ⟨[.pointer (some ⟨b, 0, none⟩)]⟩] => match S.heap.get b with
  | some (.row [.map (some m)] _ _) => match S.heap.get m with
   | some (.map [e] c false) => .req (okKey e c) (.pure (.slice (some ⟨S.next, 0, none⟩) 1 1, { S with heap := S.heap.set S.next (some (.row [e.key] 1 false)), next := S.next + 1 }))
   | _ => none
  | _ => none
 | _ => none
def orcL : Orc := fun f => if f = 29 then some keysF else if f = 87 then some appF else orc3 f
noncomputable def ycL : YCall := ygo Tryz.prog okN orcL kp 100
noncomputable def slA (l : List (Nat × Value)) : XAct := l.foldl (fun a p => a.set p.1 (some p.2)) (List.replicate (Tryz.f8.ntmps) none)
end Go.Xe
