/- A part of the proof. -/
import Derived.Test.YtkhjbbigangbdaaGreatDoorM15
import Derived.Test.YtkhjbbigangbdaaGreatDoorM13
set_option linter.all false
namespace Go.Xe
open Go Go.Proofs
def cov (at0 : Int) (p : Nat × List Value) : Bool := decide ((p.1 : Int) ≤ at0) && decide (at0 - (p.1 : Int) < (p.2.length : Int))
def covers (at0 : Int) (P : Pend) : Bool := P.any (cov at0)
noncomputable abbrev covL : Code := sub (codeOf Tryz.prog 21) [1,0,1,0,0]
theorem covCode : codeOf Tryz.prog 21 = .seq (sub (codeOf Tryz.prog 21) [0]) (.seq (.seq (sub (codeOf Tryz.prog 21) [1,0,0]) (.block 0 (.loop covL))) (sub (codeOf Tryz.prog 21) [1,1])) := by kernel_rfl
theorem covBody : Tryz.f21.body = some (codeOf Tryz.prog 21) := by kernel_rfl
theorem covGoodL : goodCode covL = true := by kernel_rfl
theorem covGoodA : goodCode (sub (codeOf Tryz.prog 21) [0]) = true := by kernel_rfl
theorem covGoodB : goodCode (sub (codeOf Tryz.prog 21) [1,0,0]) = true := by kernel_rfl
theorem covGoodE : goodCode (sub (codeOf Tryz.prog 21) [1,1]) = true := by kernel_rfl
def covH (at0 : Int) (k i : Nat) : XAct := slZ 31 [(1, Value.int IntKind.i64 at0), (10, Value.slice (some { block := 100010, off := 0 : Addr }) k k), (11, Value.int IntKind.i64 (k : Int)), (12, .int .i64 (i : Int))]
def covZ (at0 : Int) (k : Nat) : XAct := slZ 31 [(1, Value.int IntKind.i64 at0), (10, Value.slice (some { block := 100010, off := 0 : Addr }) k k), (11, Value.int IntKind.i64 (k : Int)), (12, Value.int IntKind.i64 (k : Int)), (13, Value.bool false)]
theorem same_hint {q : Nat} {P : Pend} {i : Nat} {p : Nat × List Value} (h : P[i]? = some p) :
 same (Value.agg (List.toArray (List.take 2 (List.drop (0 + i * 2) (arrS q P i p.2.length))))) (Value.agg { toList := [Value.int IntKind.i64 (p.1 : Int), Value.slice (some { block := 199997, off := 0 : Addr }) p.2.length p.2.length] : Array Value }) = true := by
 rw [arrS_take h]
 exact same_of rfl
section
variable {P : Pend} {z : Nat} {S : St} {on : Bool} {fu at0 : Int}
structure CovIn (P : Pend) (z : Nat) (S : St) (on : Bool) (fu at0 : Int) : Prop where
 p : PCond 1 P z S
 r8 : S.heap.get 100008 = some (rRow z (wrV 100010 P.length) on fu)
 r10 : S.heap.get 100010 = some (.row (arrC 1 0 P) 2 false)
 lo : -(2 : Int) ^ 63 ≤ at0
 hi : at0 < (2 : Int) ^ 63
variable (I : CovIn P z S on fu at0)
include I
theorem cov_any {e : XE} {a' : XAct} {C' : St} {i : Nat} {p : Nat × List Value} (hp : P[i]? = some p)
 (hrun : Runs Tryz.prog okN (xgoO Tryz.prog okN orcZ kp 100) (kp 21) covL (covH at0 P.length i) (ofL ([] ++ [(100010, .row (arrS 1 P i p.2.length) 2 false), (199997, .row p.2 1 false)]) 200000) e a' C') (hn' : 200000 ≤ C'.next)
 (ca : C'.heap.get 100010 = some (.row (arrS 1 P i p.2.length) 2 false)) (cr : C'.heap.get 199997 = some (.row p.2 1 false)) (hb : lowA 199997 a' = true) : SB Tryz.prog S covL (covH at0 P.length i) S e a' S := by
 have hi := (List.getElem?_eq_some_iff.1 hp).1
 have := I.p.many
 exact SB.elem (lb := []) (l1 := []) (l := []) (cl := []) I.p (by omega) hp (by omega) callZ covGoodL hrun hn' I.r10 (I.p.rows i p hp) (by have := tid_mod (100 + 2 * i + 1); omega) ca cr (fun p hp => by cases hp) (fun p hp => by cases hp) (fun i => rfl) (fun k y h => by cases h)
  (by kernel_rfl) hb rfl (fun i v hi => hi)
theorem cov_round {i : Nat} {p : Nat × List Value} (hp : P[i]? = some p) :
 (cov at0 p = false → SB Tryz.prog S covL (covH at0 P.length i) S .normal (covH at0 P.length (i + 1)) S) ∧ (cov at0 p = true → SB Tryz.prog S covL (covH at0 P.length i) S .ret (slZ 31 [(4, Value.bool true)]) S) := by
 have hi := (List.getElem?_eq_some_iff.1 hp).1
 have hm := I.p.many
 have hfit := I.p.fits p (List.mem_of_getElem? hp)
 have hz := I.p.size
 have hlo := I.lo
 have hhi := I.hi
 have e1 : IntKind.wrap IntKind.i64 ((i : Int) + 1) = ((i + 1 : Nat) : Int) := wrapAdd (b := 1) (by omega)
 have f1 : decide ((i : Int) < (P.length : Int)) = true := decide_eq_true (by omega)
 have f2 : decide ((0 : Int) ≤ (i : Int)) = true := decide_eq_true (by omega)
 have f3 : decide (0 + i * 2 + 2 ≤ (arrS 1 P i p.2.length).length) = true := decide_eq_true (by rw [arrS_length]; omega)
 have f4 := same_hint (q := 1) hp
 by_cases h1 : (p.1 : Int) ≤ at0
 ·have g1 : decide ((p.1 : Int) ≤ at0) = true := decide_eq_true h1
  have e2 : IntKind.wrap IntKind.i64 (at0 - (p.1 : Int)) = at0 - (p.1 : Int) := wrap64 (by omega) (by omega)
  by_cases h2 : at0 - (p.1 : Int) < (p.2.length : Int)
  ·have g2 : decide (at0 - (p.1 : Int) < (p.2.length : Int)) = true := decide_eq_true h2
   refine ⟨fun h => by simp [cov, g1, g2] at h, fun _ => ?_⟩
   have hr := covY P.length i p.1 p.2.length at0 (arrS 1 P i p.2.length) p.2
   rw [e2] at hr
   refine cov_any I hp (Runs.hpath yxZ hr ?_) (Nat.le_of_ble_eq_true rfl) (by kernel_rfl) (by kernel_rfl) (by kernel_rfl)
   simp only [f1, f2, f3, f4, g1, g2]; rfl
  ·have g2 : decide (at0 - (p.1 : Int) < (p.2.length : Int)) = false := decide_eq_false h2
   refine ⟨fun _ => ?_, fun h => by simp [cov, g1, g2] at h⟩
   have hr := covR P.length i p.1 p.2.length at0 (arrS 1 P i p.2.length) p.2
   rw [e1, e2] at hr
   refine cov_any I hp (Runs.hpath yxZ hr ?_) (Nat.le_of_ble_eq_true rfl) (by kernel_rfl) (by kernel_rfl) (by kernel_rfl)
   simp only [f1, f2, f3, f4, g1, g2]; rfl
 ·have g1 : decide ((p.1 : Int) ≤ at0) = false := decide_eq_false h1
  refine ⟨fun _ => ?_, fun h => by simp [cov, g1] at h⟩
  have hr := covR0 P.length i p.1 p.2.length at0 (arrS 1 P i p.2.length) p.2
  rw [e1] at hr
  refine cov_any I hp (Runs.hpath yxZ hr ?_) (Nat.le_of_ble_eq_true rfl) (by kernel_rfl) (by kernel_rfl) (by kernel_rfl)
  simp only [f1, f2, f3, f4, g1]; rfl
theorem cov_rounds : ∀ r i, i + r = P.length → (covers at0 (P.drop i) = true → SLB Tryz.prog S (r + 1) covL (covH at0 P.length i) S .ret (slZ 31 [(4, Value.bool true)]) S) ∧ (covers at0 (P.drop i) = false → SLB Tryz.prog S (r + 1) covL (covH at0 P.length i) S (.exit 0) (covZ at0 P.length) S)
 | 0, i, hr => by
  obtain rfl : i = P.length := by omega
  refine ⟨fun h => by simp [covers] at h, fun _ => ?_⟩
  have h := covX P.length P.length at0
  have f1 : decide (((P.length : Nat) : Int) < (P.length : Int)) = false := decide_eq_false (by omega)
  simp only [f1] at h
  exact SLB.exit (SB.quiet (lb := []) (cl := []) callZ covGoodL (Runs.path yxZ h rfl) I.p.low I.p.next (Nat.le_of_ble_eq_true rfl) (fun p hp => by cases hp) (fun k y h => by cases h) (by kernel_rfl) (by kernel_rfl) rfl (fun i v hi => hi))
 | r + 1, i, hr => by
  have hi : i < P.length := by omega
  have hd : P.drop i = P[i] :: P.drop (i + 1) := (List.drop_eq_getElem_cons hi)
  have hx := cov_round I (List.getElem?_eq_getElem hi)
  have hy := cov_rounds r (i + 1) (by omega)
  have hc : covers at0 (P.drop i) = (cov at0 P[i] || covers at0 (P.drop (i + 1))) := by rw [hd]; rfl
  rw [hc]
  cases hq : cov at0 P[i] with
  | true => exact ⟨fun _ => SLB.ret (hx.2 hq), fun h => by simp at h⟩
  | false =>
   simp only [Bool.false_or]
   exact ⟨fun h => SLB.step (hx.1 hq) (hy.1 h), fun h => SLB.step (hx.1 hq) (hy.2 h)⟩
theorem cov_SR : SR Tryz.prog (codeOf Tryz.prog 21) (startX Tryz.f21 [.pointer (some ⟨100008, 0, none⟩), .int .i64 at0]) S .ret (slZ 31 [(4, Value.bool (covers at0 P))]) S := by
 rw [covCode]
 have hn := I.p.next
 have row : ∀ {C' : St}, C'.heap.get 100008 = some (rRow z (wrV 100010 P.length) on fu) →
  ∀ p, p ∈ [(100008, rRow z (wrV 100010 P.length) on fu)] → p.1 < 199997 ∧ (putU S.heap []).get p.1 = some p.2 ∧ LowR 199997 p.2 ∧ C'.heap.get p.1 = some p.2 := by
  intro C' h' p hp
  obtain rfl := List.mem_singleton.1 hp
  exact ⟨Nat.le_of_ble_eq_true rfl, I.r8, fun π hk => lowE_ren hk (by kernel_rfl), h'⟩
 have nil : ∀ k (y : Ent), (k, y) ∈ ([] : List (Nat × Ent)) → k < S.next ∧ LowR S.next y := fun k y h => by cases h
 have hA : SB Tryz.prog S _ _ S _ _ S := SB.quiet (lb := []) callZ covGoodA (Runs.path yxZ (covA z P.length at0 fu on) rfl) I.p.low hn (Nat.le_of_ble_eq_true rfl) (row (by kernel_rfl)) nil (by kernel_rfl) (by kernel_rfl) rfl (fun i v hi => hi)
 have hB : SB Tryz.prog S _ _ S _ _ S := SB.quiet (lb := []) callZ covGoodB (Runs.path yxZ (covB z P.length at0 fu on) rfl) I.p.low hn (Nat.le_of_ble_eq_true rfl) (row (by kernel_rfl)) nil (by kernel_rfl) (by kernel_rfl) rfl (fun i v hi => hi)
 have hL := cov_rounds I P.length 0 (by omega)
 rw [List.drop_zero] at hL
 cases hq : covers at0 P with
 | true => exact SR.ofB (SB.seq hA (SB.seq_ret (SB.seq hB (SB.block_ret (SB.loop (hL.1 hq))))))
 | false =>
  have h := covPost P.length P.length at0
  have f1 : decide (((P.length : Nat) : Int) < (P.length : Int)) = false := decide_eq_false (by omega)
  simp only [f1] at h
  have hE : SB Tryz.prog S _ (covZ at0 P.length) S _ _ S := SB.quiet (lb := []) (cl := []) callZ covGoodE (Runs.path yxZ h rfl) I.p.low hn (Nat.le_of_ble_eq_true rfl) (fun p hp => by cases hp) nil (by kernel_rfl) (by kernel_rfl) rfl (fun i v hi => hi)
  exact SR.ofB (SB.seq hA (SB.seq (SB.seq hB (SB.block_exit (SB.loop (hL.2 hq)))) hE))
end
noncomputable def coveredF (P : Pend) (z : Nat) (args : List Value) (S : St) : Y (Value × St) :=
 match args, S.heap.get 100008 with
 | [.pointer (some ⟨100008, 0, none⟩), .int .i64 at0], some (.row [_, _, .bool on, .int .i64 fu] _ _) => .req (@decide (CovIn P z S on fu at0) (Classical.propDecidable _)) (.pure (.bool (covers at0 P), S))
 | _, _ => none
theorem coveredF_sound (P : Pend) (z : Nat) (args : List Value) (S : St) (v : Value) (S' : St) (hx : coveredF P z args S = some (true, (v, S'))) (α : Place) (w : World) (args' : Array Value) (h : Rel α S w) (ha : LRel α args args'.toList) :
 Calls Tryz.prog 21 args' w fun e w' => ∃ β v', e = .returned v' ∧ Next α S w β S' w' ∧ VRel β v v' := by
 unfold coveredF at hx
 split at hx
 ·simp only [Y.req_is, Y.pure_is, decide_eq_true_eq, Prod.mk.injEq] at hx
  obtain ⟨I, rfl, rfl⟩ := hx
  exact SR.calls Tryz.func21 covBody (cov_SR I) (.inr rfl) (by kernel_rfl) h ha
 ·cases hx
end Go.Xe
