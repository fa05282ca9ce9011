/- A part of the proof. -/
import Derived.Test.YtkhjbbigangbdaaGreatDoorM13
set_option linter.all false
namespace Go.Xe
open Go Go.Proofs
theorem syncA (z k : Nat) (fu : Int) : ycode Tryz.prog okN ycZ (kp 16) 100 (sub (codeOf Tryz.prog 16) [0]) (startX Tryz.f16 [.pointer (ad 100008)]) (ofL [(100008, rRow z (wrV 100010 k) true fu)] 200000) [] = (some (true, ((XE.normal, (slZ 33 [(0, Value.pointer (ad 100008))]), ⟨(ch 16 34473 (lr [Value.slice (ad 100009) z z, Value.slice (ad 100010) k k, Value.bool true, Value.int .i64 fu] 0 false)), 200000, 0⟩), []))) := by kernel_rfl
theorem syncB (z k : Nat) (fu : Int) : ycode Tryz.prog okN ycZ (kp 16) 100 (sub (codeOf Tryz.prog 16) [1,0]) (slZ 33 [(0, .pointer (ad 100008))]) (ofL [(100008, rRow z (wrV 100010 k) true fu)] 200000) [false] = (some (true, ((XE.normal, (slZ 33 [(0, Value.pointer (ad 100008)), (9, Value.bool false)]), ⟨(ch 16 34473 (lr [Value.slice (ad 100009) z z, Value.slice (ad 100010) k k, Value.bool true, Value.int .i64 fu] 0 false)), 200000, 0⟩), []))) := by kernel_rfl
theorem syncC (z k : Nat) (fu : Int) : ycode Tryz.prog okN ycZ (kp 16) 100 (sub (codeOf Tryz.prog 16) [1,1,0,0]) (slZ 33 [(0, .pointer (ad 100008)), (9, .bool false)]) (ofL [(100008, rRow z (wrV 100010 k) true fu)] 200000) [] = (some (true, ((XE.normal, (slZ 33 [(0, Value.pointer (ad 100008)), (13, Value.slice (ad 100010) k k), (14, Value.int .i64 k), (15, Value.int .i64 0)]), ⟨(ch 16 34473 (lr [Value.slice (ad 100009) z z, Value.slice (ad 100010) k k, Value.bool true, Value.int .i64 fu] 0 false)), 200000, 0⟩), []))) := by kernel_rfl
theorem syncR (z k i a l : Nat) (fu : Int) (las cs bs : List Value) : hcode Tryz.prog okN ycZ (kp 16) [(18, .agg ⟨[.int .i64 (a : Int), .slice (ad 199997) l l]⟩)] 100 (sub (codeOf Tryz.prog 16) [1,1,0,1,0,0]) (slZ 33 [(0, .pointer (ad 100008)), (13, .slice (ad 100010) k k), (14, .int .i64 k), (15, .int .i64 (i : Int))]) (ofL [(100008, rRow z (wrV 100010 k) true fu), (100009, .row las 1 false), (100010, .row cs 2 false), (199997, .row bs 1 false)] 200000) [true, false, true] = (let x0 := [Value.int .i64 a, Value.slice (ad 199997) l l]; let x1 := List.getD [Value.slice (ad 100009) z z, wrV 100010 k, Value.bool true, Value.int .i64 fu] 0 undefX; let x2 := List.getD (splice [Value.int .i64 0, Value.slice none 0 0] 0 x0) 1 undefX; let x3 := List.take (l * 1) (List.drop 0 bs); let x4 := Value.slice (some ⟨100009, 0 + a * 1, none⟩) (z - a) (z - a); let x5 := decide ((i : Int) < (k : Int)); let x6 := decide ((a : Int) ≤ (z : Int)); some (tn 1 x5 && tn 2 (tn 1 (tn 2 (decide (0 ≤ (i : Int)) && tn 1 x5) && (tn 4 (decide (0 + i * 2 + 2 ≤ List.length cs)) && (tn 1 (same (Value.agg (List.toArray (List.take 2 (List.drop (0 + i * 2) cs)))) (Value.agg { toList := x0 : Array Value })) && tn 3 (decide (0 + List.length x0 ≤ 2) && tn 1 (List.all x0 one))))) && tn 1 (tn 5 x6 && tn 4 (decide (l ≤ z - a) && (!decide (l = 0) && tn 1 (decide (0 + l * 1 ≤ List.length bs)) && tn 1 (decide (0 + a * 1 + List.length x3 ≤ List.length las) && tn 1 (List.all x3 one)))) && tn 1 (tn 1 (same x1 x1) && (tn 1 (same (Value.int .i64 a) (Value.int .i64 a)) && (tn 4 x6 && tn 1 (same x4 x4) && tn 2 (same x2 x2)))))), ((XE.normal, (slZ 33 [(0, Value.pointer (ad 100008)), (13, Value.slice (ad 100010) k k), (14, Value.int .i64 k), (15, Value.int .i64 (IntKind.wrap .i64 ((i : Int) + 1)))]), ⟨(nd (ri (nd (ch 13 4309 (lr (splice las (0 + a * 1) x3) 1 false)) (ch 14 8615 (lr bs 1 false)))) (nd (le (nd (ch 13 4308 (lr x0 0 false)) (ch 12 2154 (lr [Value.slice (ad 100009) z z, Value.slice (ad 100010) k k, Value.bool true, Value.int .i64 fu] 0 false)))) (ch 14 8618 (lr cs 2 false)))), 200011, 0⟩), []))) := by kernel_rfl
theorem syncR0 (z k i a l : Nat) (fu : Int) (las cs bs : List Value) : hcode Tryz.prog okN ycZ (kp 16) [(18, .agg ⟨[.int .i64 (a : Int), .slice (ad 199997) l l]⟩)] 100 (sub (codeOf Tryz.prog 16) [1,1,0,1,0,0]) (slZ 33 [(0, .pointer (ad 100008)), (13, .slice (ad 100010) k k), (14, .int .i64 k), (15, .int .i64 (i : Int))]) (ofL [(100008, rRow z (wrV 100010 k) true fu), (100009, .row las 1 false), (100010, .row cs 2 false), (199997, .row bs 1 false)] 200000) [true, true, true] = (let x0 := [Value.int .i64 a, Value.slice (ad 199997) l l]; let x1 := List.getD [Value.slice (ad 100009) z z, wrV 100010 k, Value.bool true, Value.int .i64 fu] 0 undefX; let x2 := List.getD (splice [Value.int .i64 0, Value.slice none 0 0] 0 x0) 1 undefX; let x3 := Value.slice (some ⟨100009, 0 + a * 1, none⟩) (z - a) (z - a); let x4 := decide ((i : Int) < (k : Int)); let x5 := decide ((a : Int) ≤ (z : Int)); some (tn 1 x4 && tn 2 (tn 1 (tn 2 (decide (0 ≤ (i : Int)) && tn 1 x4) && (tn 4 (decide (0 + i * 2 + 2 ≤ List.length cs)) && (tn 1 (same (Value.agg (List.toArray (List.take 2 (List.drop (0 + i * 2) cs)))) (Value.agg { toList := x0 : Array Value })) && tn 3 (decide (0 + List.length x0 ≤ 2) && tn 1 (List.all x0 one))))) && tn 1 (tn 5 x5 && tn 4 (decide (l ≤ z - a) && tn 2 (decide (l = 0))) && tn 1 (tn 1 (same x1 x1) && (tn 1 (same (Value.int .i64 a) (Value.int .i64 a)) && (tn 4 x5 && tn 1 (same x3 x3) && tn 2 (same x2 x2)))))), ((XE.normal, (slZ 33 [(0, Value.pointer (ad 100008)), (13, Value.slice (ad 100010) k k), (14, Value.int .i64 k), (15, Value.int .i64 (IntKind.wrap .i64 ((i : Int) + 1)))]), ⟨(nd (ri (nd (ch 13 4309 (lr las 1 false)) (ch 14 8615 (lr bs 1 false)))) (nd (le (nd (ch 13 4308 (lr x0 0 false)) (ch 12 2154 (lr [Value.slice (ad 100009) z z, Value.slice (ad 100010) k k, Value.bool true, Value.int .i64 fu] 0 false)))) (ch 14 8618 (lr cs 2 false)))), 200011, 0⟩), []))) := by kernel_rfl
theorem syncX (z k i : Nat) (fu : Int) (las : List Value) : ycode Tryz.prog okN ycZ (kp 16) 100 (sub (codeOf Tryz.prog 16) [1,1,0,1,0,0]) (slZ 33 [(0, .pointer (ad 100008)), (13, .slice (ad 100010) k k), (14, .int .i64 k), (15, .int .i64 (i : Int))]) (ofL [(100008, rRow z (wrV 100010 k) true fu), (100009, .row las 1 false)] 200000) [false] = (let x0 := decide ((i : Int) < (k : Int)); some (tn 2 (!x0), ((XE.exit 0, (slZ 33 [(0, Value.pointer (ad 100008)), (13, Value.slice (ad 100010) k k), (14, Value.int .i64 k), (15, Value.int .i64 i), (16, Value.bool (x0))]), ⟨(nd (ch 15 17237 (lr las 1 false)) (ch 15 17236 (lr [Value.slice (ad 100009) z z, Value.slice (ad 100010) k k, Value.bool true, Value.int .i64 fu] 0 false))), 200000, 0⟩), []))) := by kernel_rfl
theorem syncPost (z k i : Nat) (fu : Int) : ycode Tryz.prog okN ycZ (kp 16) 100 (sub (codeOf Tryz.prog 16) [1,1,1]) (slZ 33 [(0, .pointer (ad 100008)), (13, .slice (ad 100010) k k), (14, .int .i64 k), (15, .int .i64 i), (16, .bool (decide ((i : Int) < (k : Int))))]) (ofL [(100008, rRow z (wrV 100010 k) true fu)] 200000) [] = (some (true, ((XE.ret, (slZ 33 [(2, Value.int .i64 0)]), ⟨(ch 16 34473 (lr [Value.slice (ad 100009) z z, Value.slice none 0 0, Value.bool true, Value.int .i64 fu] 0 false)), 200000, 0⟩), []))) := by kernel_rfl
noncomputable abbrev syncL : Code := sub (codeOf Tryz.prog 16) [1,1,0,1,0,0]
noncomputable abbrev syncE : Code := sub (codeOf Tryz.prog 16) [1,1,1]
theorem syncCode : codeOf Tryz.prog 16 = .seq (sub (codeOf Tryz.prog 16) [0]) (.seq (sub (codeOf Tryz.prog 16) [1,0]) (.seq (.seq (sub (codeOf Tryz.prog 16) [1,1,0,0]) (.block 0 (.loop syncL))) syncE)) := by kernel_rfl
theorem syncBody : Tryz.f16.body = some (codeOf Tryz.prog 16) := by kernel_rfl
theorem syncGoodL : goodCode syncL = true := by kernel_rfl
theorem syncGoodE : goodCode syncE = true := by kernel_rfl
def syncH (k i : Nat) : XAct := slZ 33 [(0, Value.pointer (some { block := 100008, off := 0 : Addr })), (13, Value.slice (some { block := 100010, off := 0 : Addr }) k k), (14, Value.int IntKind.i64 (k : Int)), (15, .int .i64 (i : Int))]
section
variable {P : Pend} {z : Nat} {S : St} {las : List Value} {fu : Int}
structure SyncIn (P : Pend) (z : Nat) (S : St) (las : List Value) (fu : Int) : Prop where
 p : PCond 1 P z S
 r8 : S.heap.get 100008 = some (rRow z (wrV 100010 P.length) true fu)
 r9 : S.heap.get 100009 = some (.row las 1 false)
 r10 : S.heap.get 100010 = some (.row (arrC 1 0 P) 2 false)
 len : las.length = z
 bytes : las.all isByte = true
variable (I : SyncIn P z S las fu)
include I
def lasAt (las : List Value) (P : Pend) (i : Nat) : List (Nat × Ent) := [(100009, .row (applyP las (P.take i)) 1 false)]
theorem lasAt_low (i : Nat) : ∀ k y, (k, y) ∈ lasAt las P i → k < S.next ∧ LowR S.next y := by
 intro k y h
 simp only [lasAt, List.mem_cons, List.not_mem_nil, or_false, Prod.mk.injEq] at h
 obtain ⟨rfl, rfl⟩ := h
 refine ⟨by have := I.p.next; omega, fun π _ => bytes_ren (applyP_bytes _ _ (I.p.fits.take i) I.bytes) π⟩
theorem sync_round {i : Nat} {p : Nat × List Value} (h : P[i]? = some p) :
 SB Tryz.prog S syncL (syncH P.length i) (S.ups (lasAt las P i) S.next) .normal (syncH P.length (i + 1)) (S.ups (lasAt las P (i + 1)) S.next) := by
 have hi := (List.getElem?_eq_some_iff.1 h).1
 have hP := I.p
 have hn := hP.next
 have hm := hP.many
 have ht := tid_lt (i := i) (q := 1) (by omega) (by omega)
 have hfit := hP.fits p (List.mem_of_getElem? h)
 have hsz := hP.size
 have hlen : (applyP las (P.take i)).length = z := applyP_length _ _ (hP.fits.take i) I.len
 have hby : (applyP las (P.take i)).all isByte = true := applyP_bytes _ _ (hP.fits.take i) I.bytes
 have g9 : (putU S.heap (lasAt las P i)).get 100009 = some (.row (applyP las (P.take i)) 1 false) := by simp only [lasAt, putU]; rw [PT.get_set_same]
 have gne : ∀ j, j ≠ 100009 → (putU S.heap (lasAt las P i)).get j = S.heap.get j := fun j hj => by simp only [lasAt, putU]; rw [PT.get_set_ne _ _ hj]
 have key : ∀ (C' : St),
  Runs Tryz.prog okN (xgoO Tryz.prog okN orcZ kp 100) (kp 16) syncL (syncH P.length i) (ofL [(100008, rRow z (wrV 100010 P.length) true fu), (100009, .row (applyP las (P.take i)) 1 false), (100010, .row (arrS 1 P i p.2.length) 2 false), (199997, .row p.2 1 false)] 200000) .normal (syncH P.length (i + 1)) C' →
  200000 ≤ C'.next → C'.heap.get 100008 = some (rRow z (wrV 100010 P.length) true fu) → C'.heap.get 100009 = some (.row (splice (applyP las (P.take i)) p.1 p.2) 1 false) → C'.heap.get 100010 = some (.row (arrS 1 P i p.2.length) 2 false) → C'.heap.get 199997 = some (.row p.2 1 false) →
  SB Tryz.prog S syncL (syncH P.length i) (S.ups (lasAt las P i) S.next) .normal (syncH P.length (i + 1)) (S.ups (lasAt las P (i + 1)) S.next) := by
  intro C' hrun hn' c8 c9 c10 ct
  have hnew : (.row (applyP las (P.take (i + 1))) 1 false : Ent) = .row (splice (applyP las (P.take i)) p.1 p.2) 1 false := by rw [applyP_take_succ h]
  refine SB.small (lb := lasAt las P i) (l1 := lasAt las P (i + 1)) (l := lasAt las P (i + 1)) callZ syncGoodL hrun (tid (100 + 2 * i + 1)) hP.low hn (by omega) rfl rfl hn' (fun j x hj => ?_) ⟨fun j x hj => ?_, fun k y hy => ?_⟩ (fun j => ?_) (lasAt_low I (i + 1)) (by kernel_rfl) (by kernel_rfl) rfl (fun _ _ h => h)
  ·have hj' := get_ofL hj
   simp only [List.mem_cons, List.not_mem_nil, or_false, Prod.mk.injEq] at hj'
   have hne : ∀ j, j < 199997 → piF (tid (100 + 2 * i + 1)) S.next j = j := piF_keeps _ _
   have hmod := tid_mod (100 + 2 * i + 1)
   rcases hj' with ⟨rfl, rfl⟩ | ⟨rfl, rfl⟩ | ⟨rfl, rfl⟩ | ⟨rfl, rfl⟩
   ·exact ⟨by omega, by omega, _, by rw [hne _ (by omega), gne _ (by omega)]; exact I.r8, lowE_ren (piF_keeps _ _) (by kernel_rfl)⟩
   ·exact ⟨by omega, by omega, _, by rw [hne _ (by omega)]; exact g9, bytes_ren hby _⟩
   ·exact ⟨by omega, by omega, _, by rw [hne _ (by omega), gne _ (by omega)]; exact I.r10, .row (arrS_ren hP (by omega) h)⟩
   ·exact ⟨by omega, by omega, _, by
     rw [show piF (tid (100 + 2 * i + 1)) S.next 199997 = tid (100 + 2 * i + 1) by unfold piF; rw [if_pos rfl], gne _ (by omega)]
     exact hP.rows i p h, bytes_ren hfit.2 _⟩
  ·have hj' := get_ofL hj
   simp only [List.mem_cons, List.not_mem_nil, or_false, Prod.mk.injEq] at hj'
   rcases hj' with ⟨rfl, rfl⟩ | ⟨rfl, rfl⟩ | ⟨rfl, rfl⟩ | ⟨rfl, rfl⟩
   ·exact .inr c8
   ·exact .inl ⟨_, by rw [piF_keeps _ _ _ (by omega)]; exact List.mem_cons_self⟩
   ·exact .inr c10
   ·exact .inr ct
  ·simp only [lasAt, List.mem_cons, List.not_mem_nil, or_false, Prod.mk.injEq] at hy
   obtain ⟨rfl, rfl⟩ := hy
   exact ⟨100009, _, (piF_keeps _ _ _ (by omega)).symm, c9, by rw [hnew]; exact bytes_ren (splice_bytes hby hfit.2) _, fun h => by cases h⟩
  ·simp only [lasAt, List.cons_append, List.nil_append, putU, PT.get_set]
   split <;> rfl
 have e1 : IntKind.wrap IntKind.i64 ((i : Int) + 1) = ((i + 1 : Nat) : Int) := wrapAdd (b := 1) (by omega)
 have f1 : decide ((i : Int) < (P.length : Int)) = true := decide_eq_true (by omega)
 have f2 : decide ((0 : Int) ≤ (i : Int)) = true := decide_eq_true (by omega)
 have f3 : decide (0 + i * 2 + 2 ≤ (arrS 1 P i p.2.length).length) = true := decide_eq_true (by rw [arrS_length]; omega)
 have f4 : decide ((p.1 : Int) ≤ (z : Int)) = true := decide_eq_true (by omega)
 have f5 : decide (p.2.length ≤ z - p.1) = true := decide_eq_true (by omega)
 have f6 := arrS_take (q := 1) h
 have ones : List.all [Value.int IntKind.i64 (p.1 : Int), Value.slice (some ⟨199997, 0, none⟩) p.2.length p.2.length] one = true := rfl
 by_cases h0 : p.2.length = 0
 ·have hp2 : p.2 = [] := List.eq_nil_of_length_eq_zero h0
  have hs : splice (applyP las (P.take i)) p.1 p.2 = applyP las (P.take i) := by rw [hp2]; unfold splice; simp
  have hr := syncR0 z P.length i p.1 p.2.length fu (applyP las (P.take i)) (arrS 1 P i p.2.length) p.2
  rw [e1] at hr
  refine key _ (Runs.hpath yxZ hr ?_) (Nat.le_of_ble_eq_true rfl) (by kernel_rfl) (by rw [hs]; kernel_rfl) (by kernel_rfl) (by kernel_rfl)
  have f7 : decide (p.2.length = 0) = true := decide_eq_true h0
  simp only [f1, f2, f3, f4, f5, f6, f7, ones]
  repeat rw [same_of]
  ·rfl
  all_goals rfl
 ·have hr := syncR z P.length i p.1 p.2.length fu (applyP las (P.take i)) (arrS 1 P i p.2.length) p.2
  rw [e1] at hr
  have e2 : List.take (p.2.length * 1) (List.drop 0 p.2) = p.2 := by simp
  rw [e2] at hr
  rw [show 0 + p.1 * 1 = p.1 by omega] at hr
  refine key _ (Runs.hpath yxZ hr ?_) (Nat.le_of_ble_eq_true rfl) (by kernel_rfl) (by kernel_rfl) (by kernel_rfl) (by kernel_rfl)
  have f7 : decide (p.2.length = 0) = false := decide_eq_false h0
  have f8 : decide (0 + p.2.length * 1 ≤ p.2.length) = true := decide_eq_true (by omega)
  have f9 : decide (p.1 + p.2.length ≤ (applyP las (P.take i)).length) = true := decide_eq_true (by omega)
  have f10 : p.2.all one = true := ones_bytes hfit.2
  simp only [f1, f2, f3, f4, f5, f6, f7, f8, f9, f10, ones]
  repeat rw [same_of]
  ·rfl
  all_goals rfl
end
theorem syncGoodA : goodCode (sub (codeOf Tryz.prog 16) [0]) = true := by kernel_rfl
theorem syncGoodB : goodCode (sub (codeOf Tryz.prog 16) [1,0]) = true := by kernel_rfl
theorem syncGoodC : goodCode (sub (codeOf Tryz.prog 16) [1,1,0,0]) = true := by kernel_rfl
def syncXa (k : Nat) : XAct := slZ 33 [(0, Value.pointer (some { block := 100008, off := 0 : Addr })), (13, Value.slice (some { block := 100010, off := 0 : Addr }) k k), (14, Value.int IntKind.i64 (k : Int)), (15, Value.int IntKind.i64 (k : Int)), (16, Value.bool false)]
def synced (las : List Value) (P : Pend) (z : Nat) (fu : Int) : List (Nat × Ent) := [(100008, rRow z (.slice none 0 0) true fu), (100009, .row (applyP las P) 1 false)]
section
variable {P : Pend} {z : Nat} {S : St} {las : List Value} {fu : Int} (I : SyncIn P z S las fu)
include I
theorem sync_rounds : ∀ r i, i + r = P.length → SLB Tryz.prog S (r + 1) syncL (syncH P.length i) (S.ups (lasAt las P i) S.next) (.exit 0) (syncXa P.length) (S.ups (lasAt las P P.length) S.next)
 | 0, i, hr => by
  obtain rfl : i = P.length := by omega
  have h := syncX z P.length P.length fu (applyP las (P.take P.length))
  have f1 : decide (((P.length : Nat) : Int) < (P.length : Int)) = false := decide_eq_false (by omega)
  simp only [f1] at h
  refine SLB.exit (SB.quiet callZ syncGoodL (Runs.path yxZ h rfl) I.p.low I.p.next (Nat.le_of_ble_eq_true rfl) (fun p hp => ?_) (lasAt_low I _) (by kernel_rfl) (by kernel_rfl) rfl (fun i v hi => hi))
  simp only [List.mem_cons, List.not_mem_nil, or_false] at hp
  rcases hp with rfl | rfl
  ·exact ⟨Nat.le_of_ble_eq_true rfl, by simp only [lasAt, putU]; rw [PT.get_set_ne _ _ (by decide)]; exact I.r8, fun π hk => lowE_ren hk (by kernel_rfl), by kernel_rfl⟩
  ·exact ⟨Nat.le_of_ble_eq_true rfl, by simp only [lasAt, putU]; rw [PT.get_set_same], fun π hk => bytes_ren (applyP_bytes _ _ (I.p.fits.take _) I.bytes) π, by kernel_rfl⟩
 | r + 1, i, hr => by
  have hi : i < P.length := by omega
  exact SLB.step (sync_round I (List.getElem?_eq_getElem hi)) (sync_rounds r (i + 1) (by omega))
theorem sync_SR : SR Tryz.prog (codeOf Tryz.prog 16) (startX Tryz.f16 [.pointer (some ⟨100008, 0, none⟩)]) S .ret (slZ 33 [(2, Value.int IntKind.i64 0)]) (S.ups (synced las P z fu) S.next) := by
 rw [syncCode]
 have hn := I.p.next
 have row : ∀ {l : List (Nat × Ent)}, (putU S.heap l).get 100008 = some (rRow z (wrV 100010 P.length) true fu) → ∀ {C' : St}, C'.heap.get 100008 = some (rRow z (wrV 100010 P.length) true fu) →
  ∀ p, p ∈ [(100008, rRow z (wrV 100010 P.length) true fu)] → p.1 < 199997 ∧ (putU S.heap l).get p.1 = some p.2 ∧ LowR 199997 p.2 ∧ C'.heap.get p.1 = some p.2 := by
  intro l h C' h' p hp
  obtain rfl := List.mem_singleton.1 hp
  exact ⟨Nat.le_of_ble_eq_true rfl, h, fun π hk => lowE_ren hk (by kernel_rfl), h'⟩
 have nil : ∀ k (y : Ent), (k, y) ∈ ([] : List (Nat × Ent)) → k < S.next ∧ LowR S.next y := fun k y h => by cases h
 have hA : SB Tryz.prog S _ _ (S.ups [] S.next) _ _ (S.ups [] S.next) := SB.quiet callZ syncGoodA (Runs.path yxZ (syncA z P.length fu) rfl) I.p.low hn (Nat.le_of_ble_eq_true rfl) (row (l := []) I.r8 (by kernel_rfl)) nil (by kernel_rfl) (by kernel_rfl) rfl (fun i v hi => hi)
 have hB : SB Tryz.prog S _ _ (S.ups [] S.next) _ _ (S.ups [] S.next) := SB.quiet callZ syncGoodB (Runs.path yxZ (syncB z P.length fu) rfl) I.p.low hn (Nat.le_of_ble_eq_true rfl) (row (l := []) I.r8 (by kernel_rfl)) nil (by kernel_rfl) (by kernel_rfl) rfl (fun i v hi => hi)
 have hC : SB Tryz.prog S _ _ (S.ups [] S.next) _ _ (S.ups [] S.next) := SB.quiet callZ syncGoodC (Runs.path yxZ (syncC z P.length fu) rfl) I.p.low hn (Nat.le_of_ble_eq_true rfl) (row (l := []) I.r8 (by kernel_rfl)) nil (by kernel_rfl) (by kernel_rfl) rfl (fun i v hi => hi)
 have hL := SB.loop (sync_rounds I P.length 0 (by omega))
 have h0 : Moves S (syncH P.length 0) (S.ups [] S.next) (syncH P.length 0) (S.ups (lasAt las P 0) S.next) := by
  refine Moves.less ⟨fun i e hi => ?_, Nat.le_refl _, rfl⟩ rfl (fun i v hi => hi)
  simp only [lasAt, St.ups, putU, PT.get_set] at hi
  split at hi
  ·rename_i h; subst h; cases hi; exact I.r9
  ·exact hi
 have hE : SB Tryz.prog S syncE (syncXa P.length) (S.ups (lasAt las P P.length) S.next) .ret (slZ 33 [(2, Value.int IntKind.i64 0)]) (S.ups (synced las P z fu) S.next) := by
  have h := syncPost z P.length P.length fu
  have f1 : decide (((P.length : Nat) : Int) < (P.length : Int)) = false := decide_eq_false (by omega)
  simp only [f1] at h
  have ht : P.take P.length = P := List.take_length
  refine SB.near (l1 := [(100008, rRow z (.slice none 0 0) true fu)]) callZ syncGoodE (Runs.path yxZ h rfl) I.p.low hn (Nat.le_of_ble_eq_true rfl) (fun p hp => ?_) (fun p hp => ?_) (fun i => ?_) (fun k y hy => ?_) (by kernel_rfl) (by kernel_rfl) rfl (fun i v hi => hi)
  ·obtain rfl := List.mem_singleton.1 hp
   exact ⟨Nat.le_of_ble_eq_true rfl, by simp only [lasAt, putU]; rw [PT.get_set_ne _ _ (by decide)]; exact I.r8, fun π hk => lowE_ren hk (by kernel_rfl), .inl ⟨_, List.mem_singleton.2 rfl⟩⟩
  ·obtain rfl := List.mem_singleton.1 hp
   exact ⟨Nat.le_of_ble_eq_true rfl, by kernel_rfl, fun π hk => lowE_ren hk (by kernel_rfl), rfl⟩
  ·simp only [lasAt, synced, ht, List.cons_append, List.nil_append]
  ·simp only [synced, List.mem_cons, List.not_mem_nil, or_false, Prod.mk.injEq] at hy
   rcases hy with ⟨rfl, rfl⟩ | ⟨rfl, rfl⟩
   ·exact ⟨by omega, fun π hk => lowE_ren (hk.mono hn) (by kernel_rfl)⟩
   ·exact ⟨by omega, fun π _ => bytes_ren (applyP_bytes _ _ I.p.fits I.bytes) π⟩
 exact SR.ofB (SB.seq hA (SB.seq hB (SB.seq (SB.seq (hC.moves h0) (SB.block_exit hL)) hE)))
end
noncomputable def syncF (P : Pend) (z : Nat) (args : List Value) (S : St) : Y (Value × St) :=
 match args, S.heap.get 100009 with
 | [.pointer (some ⟨100008, 0, none⟩)], some (.row las 1 false) => match S.heap.get 100008 with
  | some (.row [_, _, _, .int .i64 fu] _ _) => .req (@decide (SyncIn P z S las fu) (Classical.propDecidable _)) (.pure (.int .i64 0, S.ups (synced las P z fu) S.next))
  | _ => none
 | _, _ => none
theorem syncF_sound (P : Pend) (z : Nat) (args : List Value) (S : St) (v : Value) (S' : St) (hx : syncF P z args S = some (true, (v, S'))) (α : Place) (w : World) (args' : Array Value) (h : Rel α S w) (ha : LRel α args args'.toList) :
 Calls Tryz.prog 16 args' w fun e w' => ∃ β v', e = .returned v' ∧ Next α S w β S' w' ∧ VRel β v v' := by
 unfold syncF at hx
 split at hx
 ·split at hx
  ·simp only [Y.req_is, Y.pure_is, decide_eq_true_eq, Prod.mk.injEq] at hx
   obtain ⟨I, rfl, rfl⟩ := hx
   exact SR.calls Tryz.func16 syncBody (sync_SR I) (.inr rfl) (by kernel_rfl) h ha
  ·cases hx
 ·cases hx
end Go.Xe
