/- A part of the proof. -/
import Derived.Test.YtkhjbbigangbdaaGreatDoorM15
import Derived.Test.YtkhjbbigangbdaaGreatDoorM18
set_option linter.all false
namespace Go.Xe
open Go Go.Proofs
def keepB (ks : List Value) (lk i : Nat) : Bool := decide (i < lk) && boolOf (ks.getD i undefX)
def lastK (ks : List Value) (lk : Nat) : Nat → Int
 | 0 => -1
 | i + 1 => if keepB ks lk i then (i : Int) else lastK ks lk i
def effL (la cut : Int) (i l : Nat) : Nat := if (i : Int) = la ∧ 0 ≤ cut ∧ cut < (l : Int) then cut.toNat else l
def loseS (ks : List Value) (lk : Nat) (la cut : Int) (i : Nat) (p : Nat × List Value) (acc : List Value) : List Value :=
 if keepB ks lk i then splice acc p.1 (p.2.take (effL la cut i p.2.length)) else acc
def loseP (ks : List Value) (lk : Nat) (la cut : Int) : Nat → Pend → List Value → List Value
 | _, [], acc => acc
 | i, p :: r, acc => loseP ks lk la cut (i + 1) r (loseS ks lk la cut i p acc)
theorem effL_le (la cut : Int) (i l : Nat) : effL la cut i l ≤ l := by unfold effL; split <;> omega
theorem loseP_append (ks : List Value) (lk : Nat) (la cut : Int) : ∀ (P Q : Pend) (j : Nat) (acc : List Value), loseP ks lk la cut j (P ++ Q) acc = loseP ks lk la cut (j + P.length) Q (loseP ks lk la cut j P acc)
 | [], Q, j, acc => rfl
 | p :: r, Q, j, acc => by
  simp only [List.cons_append, loseP, List.length_cons]
  rw [loseP_append ks lk la cut r Q (j + 1)]
  congr 1; omega
theorem loseP_take_succ {ks : List Value} {lk : Nat} {la cut : Int} {P : Pend} {i : Nat} {p : Nat × List Value} (h : P[i]? = some p) (las : List Value) :
 loseP ks lk la cut 0 (P.take (i + 1)) las = loseS ks lk la cut i p (loseP ks lk la cut 0 (P.take i) las) := by
 have hi := (List.getElem?_eq_some_iff.1 h).1
 have e : P.take (i + 1) = P.take i ++ [p] := by rw [List.take_add_one, h]; rfl
 rw [e, loseP_append, List.length_take, Nat.zero_add, Nat.min_eq_left (by omega)]; rfl
theorem loseS_length {ks : List Value} {lk : Nat} {la cut : Int} {i z : Nat} {p : Nat × List Value} {acc : List Value} (h : p.1 + p.2.length ≤ z) (ha : acc.length = z) : (loseS ks lk la cut i p acc).length = z := by
 unfold loseS
 split
 ·have := effL_le la cut i p.2.length
  rw [splice_length (by rw [List.length_take]; omega)]; exact ha
 ·exact ha
theorem loseS_bytes {ks : List Value} {lk : Nat} {la cut : Int} {i : Nat} {p : Nat × List Value} {acc : List Value} (h : p.2.all isByte = true) (ha : acc.all isByte = true) : (loseS ks lk la cut i p acc).all isByte = true := by
 unfold loseS
 split
 ·exact splice_bytes ha (all_take_of h _)
 ·exact ha
theorem loseP_length {ks : List Value} {lk : Nat} {la cut : Int} {z : Nat} : ∀ (P : Pend) (j : Nat) (las : List Value), FitsP z P → las.length = z → (loseP ks lk la cut j P las).length = z
 | [], j, las, _, h => h
 | p :: r, j, las, hf, h => loseP_length r _ _ (fun x hx => hf x (by simp [hx])) (loseS_length (hf p (by simp)).1 h)
theorem loseP_bytes {ks : List Value} {lk : Nat} {la cut : Int} {z : Nat} : ∀ (P : Pend) (j : Nat) (las : List Value), FitsP z P → las.all isByte = true → (loseP ks lk la cut j P las).all isByte = true
 | [], j, las, _, h => h
 | p :: r, j, las, hf, h => loseP_bytes r _ _ (fun x hx => hf x (by simp [hx])) (loseS_bytes (hf p (by simp)).2 h)
noncomputable abbrev rlL1 : Code := sub (codeOf Tryz.prog 19) [1,0,1,0,0]
noncomputable abbrev rlL2 : Code := sub (codeOf Tryz.prog 19) [1,1,0,1,0,0]
theorem rlGood1 : goodCode rlL1 = true := by kernel_rfl
theorem rlGood2 : goodCode rlL2 = true := by kernel_rfl
structure KeepIn (S : St) (kv : Value) (ks : List Value) (lk : Nat) : Prop where
 v : (kv = .slice none 0 0 ∧ lk = 0) ∨ (∃ kc, kv = .slice (some ⟨199990, 0, none⟩) lk kc ∧ S.heap.get 199990 = some (.row ks 1 true))
 le : lk ≤ ks.length
 bools : ks.all isBool = true
structure LoseIn (P : Pend) (z : Nat) (S : St) (las : List Value) (on : Bool) (fu : Int) (kv : Value) (ks : List Value) (lk : Nat) : Prop where
 p : PCond 1 P z S
 r8 : S.heap.get 100008 = some (rRow z (wrV 100010 P.length) on fu)
 r9 : S.heap.get 100009 = some (.row las 1 false)
 r10 : S.heap.get 100010 = some (.row (arrC 1 0 P) 2 false)
 len : las.length = z
 bytes : las.all isByte = true
 keep : KeepIn S kv ks lk
def rlH1 (kv : Value) (cut la : Int) (k i : Nat) : List (Nat × Value) := [(0, Value.pointer (some { block := 100008, off := 0 : Addr })), (1, kv), (2, .int .i64 cut), (6, .int .i64 la), (15, .int .i64 (k : Int)), (16, .int .i64 (i : Int))]
def rlH2 (kv : Value) (cut la : Int) (k i : Nat) : List (Nat × Value) := [(0, Value.pointer (some { block := 100008, off := 0 : Addr })), (1, kv), (2, .int .i64 cut), (6, .int .i64 la), (34, Value.slice (some { block := 100010, off := 0 : Addr }) k k), (35, .int .i64 (k : Int)), (36, .int .i64 (i : Int))]
theorem KeepIn.low {S : St} {kv : Value} {ks : List Value} {lk : Nat} (h : KeepIn S kv ks lk) : low 199997 kv = true := by
 rcases h.v with ⟨rfl, _⟩ | ⟨kc, rfl, _⟩ <;> rfl
theorem bool_at {ks : List Value} (h : ks.all isBool = true) {i : Nat} (hi : i < ks.length) : isBool (ks.getD i undefX) = true := by
 rw [List.getD_eq_getElem?_getD, List.getElem?_eq_getElem hi, Option.getD_some]
 exact List.all_eq_true.1 h _ (List.getElem_mem _)
theorem bools_ren {ks : List Value} {esz : Nat} {ro : Bool} (h : ks.all isBool = true) (π : Nat → Nat) : RenE π (.row ks esz ro) (.row ks esz ro) := by
 refine .plain (List.all_eq_true.2 fun v hv => ?_)
 have := List.all_eq_true.1 h v hv
 cases v <;> simp_all [isBool, plain1]
section
variable {P : Pend} {z : Nat} {S : St} {las : List Value} {on : Bool} {fu cut la : Int} {kv : Value} {ks : List Value} {lk : Nat} (I : LoseIn P z S las on fu kv ks lk)
include I
theorem rlH1_ren (t i : Nat) : SlRen (piF t S.next) (slZ 89 (rlH1 kv cut la P.length i)) (slZ 89 (rlH1 kv cut la P.length i)) :=
 SlRen.slZ (PairsRen.low (piF_keeps t S.next) (by simp only [rlH1, List.all_cons, I.keep.low, List.all_nil, Bool.and_true]; rfl))
theorem rlH2_ren (t i : Nat) : SlRen (piF t S.next) (slZ 89 (rlH2 kv cut la P.length i)) (slZ 89 (rlH2 kv cut la P.length i)) :=
 SlRen.slZ (PairsRen.low (piF_keeps t S.next) (by simp only [rlH2, List.all_cons, I.keep.low, List.all_nil, Bool.and_true]; rfl))
theorem rlH1_low (i : Nat) : ∀ j v, slot (slZ 89 (rlH1 kv cut la P.length i)) j = some v → ∀ π, Keeps (S.next + 0) π → RenV π v v := fun j v h π hk =>
 slZ_low (m := 199997) (by simp only [rlH1, List.all_cons, I.keep.low, List.all_nil, Bool.and_true]; rfl) j v h π (hk.mono (by have := I.p.next; omega))
theorem rlH2_low (i : Nat) : ∀ j v, slot (slZ 89 (rlH2 kv cut la P.length i)) j = some v → ∀ π, Keeps (S.next + 0) π → RenV π v v := fun j v h π hk =>
 slZ_low (m := 199997) (by simp only [rlH2, List.all_cons, I.keep.low, List.all_nil, Bool.and_true]; rfl) j v h π (hk.mono (by have := I.p.next; omega))
theorem rl_round1 {i : Nat} (hi : i < P.length) :
 SB Tryz.prog S rlL1 (slZ 89 (rlH1 kv cut (lastK ks lk i) P.length i)) S .normal (slZ 89 (rlH1 kv cut (lastK ks lk (i + 1)) P.length (i + 1))) S := by
 have hm := I.p.many
 have hn := I.p.next
 have e1 : IntKind.wrap IntKind.i64 ((i : Int) + 1) = ((i + 1 : Nat) : Int) := wrapAdd (b := 1) (by omega)
 have f1 : decide ((i : Int) < (P.length : Int)) = true := decide_eq_true (by omega)
 have f2 : decide ((0 : Int) ≤ (i : Int)) = true := decide_eq_true (by omega)
 have nil : ∀ k (y : Ent), (k, y) ∈ ([] : List (Nat × Ent)) → k < S.next + 0 ∧ LowR (S.next + 0) y := fun k y h => by cases h
 by_cases hk : i < lk
 ·obtain ⟨kc, rfl, hrow⟩ : ∃ kc, kv = .slice (some ⟨199990, 0, none⟩) lk kc ∧ S.heap.get 199990 = some (.row ks 1 true) := by
   rcases I.keep.v with ⟨_, h⟩ | h
   ·omega
   ·exact h
  have hle := I.keep.le
  have f3 : decide ((i : Int) < (lk : Int)) = true := decide_eq_true (by omega)
  have f4 : decide (0 + i * 1 < ks.length) = true := decide_eq_true (by omega)
  have e2 : 0 + i * 1 = i := by omega
  have f5 := bool_at I.keep.bools (show i < ks.length by omega)
  have hkeep : keepB ks lk i = boolOf (ks.getD i undefX) := by simp [keepB, hk]
  have row : ∀ {C' : St}, C'.heap.get 199990 = some (.row ks 1 true) → ∀ x, x ∈ [(199990, Ent.row ks 1 true)] → (x.1 < 199997 ∨ 200000 ≤ x.1 ∧ x.1 < 200000 + 0) ∧ (putU S.heap []).get (piF 199998 S.next x.1) = some x.2 ∧ LowR 199997 x.2 ∧ ((∃ y, (x.1, y) ∈ ([] : List (Nat × Ent))) ∨ C'.heap.get x.1 = some x.2) := by
   intro C' hc x hx
   obtain rfl := List.mem_singleton.1 hx
   exact ⟨.inl (Nat.le_of_ble_eq_true rfl), by rw [piF_keeps _ _ _ (Nat.le_of_ble_eq_true rfl)]; exact hrow, fun π _ => bools_ren I.keep.bools π, .inr hc⟩
  cases hb : boolOf (ks.getD i undefX) with
  | true =>
   have hr := rl1a P.length i lk kc cut (lastK ks lk i) ks
   simp only [e1, e2, f1, f2, f3, f5, hb] at hr
   rw [show lastK ks lk (i + 1) = (i : Int) by simp only [lastK, hkeep, hb, if_true]]
   have f4' : decide (i < ks.length) = true := decide_eq_true (by omega)
   simp only [f4'] at hr
   exact SB.near2 (lb := []) (l := []) (s1 := []) (m := 0) (m' := 0) callZ rlGood1 (Runs.path yxZ hr rfl) rfl I.p.low hn (Nat.le_of_ble_eq_true rfl) (Nat.zero_le _) (row (by kernel_rfl)) (fun x hx => by cases hx) (fun j => rfl) nil (rlH1_ren I _ _) (rlH1_ren I _ _) (rlH1_low I _)
  | false =>
   have hr := rl1b P.length i lk kc cut (lastK ks lk i) ks
   simp only [e1, e2, f1, f2, f3, f5, hb] at hr
   rw [show lastK ks lk (i + 1) = lastK ks lk i by simp only [lastK, hkeep, hb, Bool.false_eq_true, if_false]]
   have f4' : decide (i < ks.length) = true := decide_eq_true (by omega)
   simp only [f4'] at hr
   exact SB.near2 (lb := []) (l := []) (s1 := []) (m := 0) (m' := 0) callZ rlGood1 (Runs.path yxZ hr rfl) rfl I.p.low hn (Nat.le_of_ble_eq_true rfl) (Nat.zero_le _) (row (by kernel_rfl)) (fun x hx => by cases hx) (fun j => rfl) nil (rlH1_ren I _ _) (rlH1_ren I _ _) (rlH1_low I _)
 ·obtain ⟨ka, kc, hkv⟩ : ∃ ka kc, kv = .slice ka lk kc := by
   rcases I.keep.v with ⟨rfl, rfl⟩ | ⟨kc, rfl, _⟩
   ·exact ⟨_, _, rfl⟩
   ·exact ⟨_, _, rfl⟩
  have f3 : decide ((i : Int) < (lk : Int)) = false := decide_eq_false (by omega)
  have hr := rl1c P.length i lk kc cut (lastK ks lk i) ka
  simp only [e1, f1, f3] at hr
  rw [show lastK ks lk (i + 1) = lastK ks lk i by simp [lastK, keepB, hk]]
  rw [← hkv] at hr
  exact SB.near2 (lb := []) (l := []) (cl := []) (s1 := []) (m := 0) (m' := 0) callZ rlGood1 (Runs.path yxZ hr rfl) rfl I.p.low hn (Nat.le_of_ble_eq_true rfl) (Nat.zero_le _) (fun x hx => by cases hx) (fun x hx => by cases hx) (fun j => rfl) nil (rlH1_ren I _ _) (rlH1_ren I _ _) (rlH1_low I _)
end
end Go.Xe
