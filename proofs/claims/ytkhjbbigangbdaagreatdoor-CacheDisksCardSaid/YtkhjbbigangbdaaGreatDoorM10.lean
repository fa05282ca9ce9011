/- A part of the proof. -/
import Derived.Test.YtkhjbbigangbdaaGreatDoorM09
import Derived.Test.YtkhjbbigangbdaaGreatDoorM08
import Derived.Test.YtkhjbbigangbdaaGreatDoorM07
set_option linter.all false
namespace Go.Xe
open Go Go.Proofs
def orc2 : Orc := fun f => if f = 52 then some getF else if f = 55 then some sumF else if f = 72 then some putF else if f = 37 then some readFn else none
noncomputable def yc2 : YCall := ygo Tryz.prog okN orc2 kp 100
theorem markedP (n len cap : Nat) (cs : List Value) (ro : Bool) : ycode Tryz.prog okN yc2 (kp 36) 100 (.seq (sub (codeOf Tryz.prog 36) [0]) (sub (codeOf Tryz.prog 36) [1,0])) (startX Tryz.f36 [.slice (ad 0) len cap, .int .i64 (n : Int)]) { heap := PT.leaf.set 0 (some (.row cs 1 ro)), next := 1, glob := 0 } [] = (let x0 := IntKind.wrap .i64 ((n : Int) + 4); let x1 := IntKind.wrap .i64 ((n : Int) + 12); let x2 := Int.toNat x1 - Int.toNat x0; some (decide (0 ≤ IntKind.wrap .i64 ((n : Int) + 12)) && (decide (IntKind.wrap .i64 ((n : Int) + 12) ≤ (cap : Int)) && true) && (decide (0 ≤ IntKind.wrap .i64 ((n : Int) + 4)) && (decide (IntKind.wrap .i64 ((n : Int) + 4) ≤ (↑(Int.toNat x1) : Int)) && true) && true) && true && true && true && (decide (Int.toNat x1 - Int.toNat x0 < 576460752303423488) && (decide (0 + Int.toNat x0 * 1 + x2 ≤ List.length cs) && (List.all cs (isInt IntKind.u8) && true)) && true && true) && true, ((XE.normal, ([some (Value.slice (ad 0) len cap), some (Value.int .i64 n), none, none, none, some (Value.int .u64 (getFrom 0 0 (List.take x2 (List.drop (0 + Int.toNat x0 * 1) cs))))] ++ nn 18), ⟨(ln (some (Ent.row cs 1 ro))), 1, 0⟩), []))) := by kernel_rfl
theorem marked0 (m n len cap : Nat) (cs : List Value) (ro : Bool) : ycode Tryz.prog okN yc2 (kp 36) 100 (sub (codeOf Tryz.prog 36) [1,1,0]) ([some (.slice (ad 0) len cap), some (.int .i64 n), none, none, none, some (.int .u64 (m : Int))] ++ nn 18) { heap := PT.leaf.set 0 (some (.row cs 1 ro)), next := 1, glob := 0 } (bits 4 14) = (let x0 := IntKind.wrap .i64 ((n : Int) + 20); let x1 := List.take 4 (List.drop 0 (splice (splice (splice (splice (zerosL [Value.int .u8 0] 4) 0 [Value.int .u8 109]) 1 [Value.int .u8 97]) 2 [Value.int .u8 114]) 3 [Value.int .u8 107])) ++ leB m 8; let x2 := Value.slice (some ⟨0, 0 + n * 1, none⟩) (Int.toNat x0 - n) (cap - n); let x3 := decide (0 ≤ (n : Int)) && (decide ((n : Int) ≤ (↑(Int.toNat x0) : Int)) && true) && true; let x4 := same (Value.int .i64 n) (Value.int .i64 n); let x5 := decide (IntKind.wrap .i64 ((n : Int) + 20) ≤ (cap : Int)) && true; let x6 := Value.slice (ad 0) len cap; let x7 := decide (0 ≤ IntKind.wrap .i64 ((n : Int) + 20)); let x8 := Value.int .i64 x0; let x9 := (↑(Int.toNat x0 - n) : Int); let x10 := List.getD cs (0 + n * 1 + 0) undefX; some (x7 && x5 && x3 && true && true && true && (decide (0 ≤ (m : Int)) && true && true && true && true && (List.all x1 isByte && true && true && true && true && true) && true && true && (!!decide (x9 = 20) && true && (decide (0 < x9) && true && (decide (0 < x9) && true && true && true && (decide (0 + n * 1 + 0 < List.length cs) && true && (isInt IntKind.u8 x10 && true) && true && true && true) && true && true && (!decide (intOf x10 = 109) && true) && true && true) && true && true && true) && true && true && true)) && (same x6 x6 && (same x6 x6 && true) && (x4 && (x4 && true) && (x4 && (x4 && true) && (same x8 x8 && (same x8 x8 && true) && (x7 && x5 && x3 && true && true && (same x2 x2 && (x7 && x5 && x3 && true && true && (same x2 x2 && true))) && (x4 && true && (same (Value.int .u64 m) (Value.int .u64 m) && true && true)))))) && true) && true && true, ((XE.ret, ([none, none, none, none, some (Value.int .u64 0)] ++ nn 19), ⟨(.node (ch 4 6 (lr (List.take 12 (List.drop 0 x1) ++ leB (Int.toNat (sumFrom (sumSeed (n : Int)) (List.take 12 (List.drop 0 x1)))) 8) 1 false)) (some (Ent.row cs 1 ro)) .leaf), 53, 0⟩), []))) := by kernel_rfl
theorem marked1 (m n len cap : Nat) (cs : List Value) (ro : Bool) : ycode Tryz.prog okN yc2 (kp 36) 100 (sub (codeOf Tryz.prog 36) [1,1,0]) ([some (.slice (ad 0) len cap), some (.int .i64 n), none, none, none, some (.int .u64 (m : Int))] ++ nn 18) { heap := PT.leaf.set 0 (some (.row cs 1 ro)), next := 1, glob := 0 } (bits 6 58) = (let x0 := IntKind.wrap .i64 ((n : Int) + 20); let x1 := List.take 4 (List.drop 0 (splice (splice (splice (splice (zerosL [Value.int .u8 0] 4) 0 [Value.int .u8 109]) 1 [Value.int .u8 97]) 2 [Value.int .u8 114]) 3 [Value.int .u8 107])) ++ leB m 8; let x2 := Value.slice (some ⟨0, 0 + n * 1, none⟩) (Int.toNat x0 - n) (cap - n); let x3 := decide (0 ≤ (n : Int)) && (decide ((n : Int) ≤ (↑(Int.toNat x0) : Int)) && true) && true; let x4 := same (Value.int .i64 n) (Value.int .i64 n); let x5 := decide (IntKind.wrap .i64 ((n : Int) + 20) ≤ (cap : Int)) && true; let x6 := Value.slice (ad 0) len cap; let x7 := decide (0 ≤ IntKind.wrap .i64 ((n : Int) + 20)); let x8 := (↑(Int.toNat x0 - n) : Int); let x9 := Value.int .i64 x0; let x10 := List.getD cs (0 + n * 1 + 0) undefX; let x11 := List.getD cs (0 + n * 1 + 1) undefX; some (x7 && x5 && x3 && true && true && true && (decide (0 ≤ (m : Int)) && true && true && true && true && (List.all x1 isByte && true && true && true && true && true) && true && true && (!!decide (x8 = 20) && true && (decide (0 < x8) && true && (decide (0 < x8) && true && true && true && (decide (0 + n * 1 + 0 < List.length cs) && true && (isInt IntKind.u8 x10 && true) && true && true && true) && true && true && (!!decide (intOf x10 = 109) && true) && true && true) && (decide (1 < x8) && true && (decide (1 < x8) && true && true && true && (decide (0 + n * 1 + 1 < List.length cs) && true && (isInt IntKind.u8 x11 && true) && true && true && true) && true && true && (!decide (intOf x11 = 97) && true) && true && true) && true) && true && true) && true && true && true)) && (same x6 x6 && (same x6 x6 && true) && (x4 && (x4 && true) && (x4 && (x4 && true) && (same x9 x9 && (same x9 x9 && true) && (x7 && x5 && x3 && true && true && (same x2 x2 && (x7 && x5 && x3 && true && true && (same x2 x2 && true))) && (x4 && true && (same (Value.int .u64 m) (Value.int .u64 m) && true && true)))))) && true) && true && true, ((XE.ret, ([none, none, none, none, some (Value.int .u64 0)] ++ nn 19), ⟨(.node (ch 4 6 (lr (List.take 12 (List.drop 0 x1) ++ leB (Int.toNat (sumFrom (sumSeed (n : Int)) (List.take 12 (List.drop 0 x1)))) 8) 1 false)) (some (Ent.row cs 1 ro)) .leaf), 62, 0⟩), []))) := by kernel_rfl
theorem marked2 (m n len cap : Nat) (cs : List Value) (ro : Bool) : ycode Tryz.prog okN yc2 (kp 36) 100 (sub (codeOf Tryz.prog 36) [1,1,0]) ([some (.slice (ad 0) len cap), some (.int .i64 n), none, none, none, some (.int .u64 (m : Int))] ++ nn 18) { heap := PT.leaf.set 0 (some (.row cs 1 ro)), next := 1, glob := 0 } (bits 8 234) = (let x0 := IntKind.wrap .i64 ((n : Int) + 20); let x1 := List.take 4 (List.drop 0 (splice (splice (splice (splice (zerosL [Value.int .u8 0] 4) 0 [Value.int .u8 109]) 1 [Value.int .u8 97]) 2 [Value.int .u8 114]) 3 [Value.int .u8 107])) ++ leB m 8; let x2 := Value.slice (some ⟨0, 0 + n * 1, none⟩) (Int.toNat x0 - n) (cap - n); let x3 := decide (0 ≤ (n : Int)) && (decide ((n : Int) ≤ (↑(Int.toNat x0) : Int)) && true) && true; let x4 := same (Value.int .i64 n) (Value.int .i64 n); let x5 := (↑(Int.toNat x0 - n) : Int); let x6 := decide (IntKind.wrap .i64 ((n : Int) + 20) ≤ (cap : Int)) && true; let x7 := Value.slice (ad 0) len cap; let x8 := decide (0 ≤ IntKind.wrap .i64 ((n : Int) + 20)); let x9 := Value.int .i64 x0; let x10 := List.getD cs (0 + n * 1 + 0) undefX; let x11 := List.getD cs (0 + n * 1 + 1) undefX; let x12 := List.getD cs (0 + n * 1 + 2) undefX; some (x8 && x6 && x3 && true && true && true && (decide (0 ≤ (m : Int)) && true && true && true && true && (List.all x1 isByte && true && true && true && true && true) && true && true && (!!decide (x5 = 20) && true && (decide (0 < x5) && true && (decide (0 < x5) && true && true && true && (decide (0 + n * 1 + 0 < List.length cs) && true && (isInt IntKind.u8 x10 && true) && true && true && true) && true && true && (!!decide (intOf x10 = 109) && true) && true && true) && (decide (1 < x5) && true && (decide (1 < x5) && true && true && true && (decide (0 + n * 1 + 1 < List.length cs) && true && (isInt IntKind.u8 x11 && true) && true && true && true) && true && true && (!!decide (intOf x11 = 97) && true) && true && true) && (decide (2 < x5) && true && (decide (2 < x5) && true && true && true && (decide (0 + n * 1 + 2 < List.length cs) && true && (isInt IntKind.u8 x12 && true) && true && true && true) && true && true && (!decide (intOf x12 = 114) && true) && true && true) && true)) && true && true) && true && true && true)) && (same x7 x7 && (same x7 x7 && true) && (x4 && (x4 && true) && (x4 && (x4 && true) && (same x9 x9 && (same x9 x9 && true) && (x8 && x6 && x3 && true && true && (same x2 x2 && (x8 && x6 && x3 && true && true && (same x2 x2 && true))) && (x4 && true && (same (Value.int .u64 m) (Value.int .u64 m) && true && true)))))) && true) && true && true, ((XE.ret, ([none, none, none, none, some (Value.int .u64 0)] ++ nn 19), ⟨(.node (ch 4 6 (lr (List.take 12 (List.drop 0 x1) ++ leB (Int.toNat (sumFrom (sumSeed (n : Int)) (List.take 12 (List.drop 0 x1)))) 8) 1 false)) (some (Ent.row cs 1 ro)) .leaf), 71, 0⟩), []))) := by kernel_rfl
theorem marked3 (m n len cap : Nat) (cs : List Value) (ro : Bool) : ycode Tryz.prog okN yc2 (kp 36) 100 (sub (codeOf Tryz.prog 36) [1,1,0]) ([some (.slice (ad 0) len cap), some (.int .i64 n), none, none, none, some (.int .u64 (m : Int))] ++ nn 18) { heap := PT.leaf.set 0 (some (.row cs 1 ro)), next := 1, glob := 0 } (bits 10 938) = (let x0 := IntKind.wrap .i64 ((n : Int) + 20); let x1 := List.take 4 (List.drop 0 (splice (splice (splice (splice (zerosL [Value.int .u8 0] 4) 0 [Value.int .u8 109]) 1 [Value.int .u8 97]) 2 [Value.int .u8 114]) 3 [Value.int .u8 107])) ++ leB m 8; let x2 := Value.slice (some ⟨0, 0 + n * 1, none⟩) (Int.toNat x0 - n) (cap - n); let x3 := (↑(Int.toNat x0 - n) : Int); let x4 := decide (0 ≤ (n : Int)) && (decide ((n : Int) ≤ (↑(Int.toNat x0) : Int)) && true) && true; let x5 := same (Value.int .i64 n) (Value.int .i64 n); let x6 := decide (IntKind.wrap .i64 ((n : Int) + 20) ≤ (cap : Int)) && true; let x7 := Value.slice (ad 0) len cap; let x8 := decide (0 ≤ IntKind.wrap .i64 ((n : Int) + 20)); let x9 := Value.int .i64 x0; let x10 := List.getD cs (0 + n * 1 + 0) undefX; let x11 := List.getD cs (0 + n * 1 + 1) undefX; let x12 := List.getD cs (0 + n * 1 + 2) undefX; let x13 := List.getD cs (0 + n * 1 + 3) undefX; some (x8 && x6 && x4 && true && true && true && (decide (0 ≤ (m : Int)) && true && true && true && true && (List.all x1 isByte && true && true && true && true && true) && true && true && (!!decide (x3 = 20) && true && (decide (0 < x3) && true && (decide (0 < x3) && true && true && true && (decide (0 + n * 1 + 0 < List.length cs) && true && (isInt IntKind.u8 x10 && true) && true && true && true) && true && true && (!!decide (intOf x10 = 109) && true) && true && true) && (decide (1 < x3) && true && (decide (1 < x3) && true && true && true && (decide (0 + n * 1 + 1 < List.length cs) && true && (isInt IntKind.u8 x11 && true) && true && true && true) && true && true && (!!decide (intOf x11 = 97) && true) && true && true) && (decide (2 < x3) && true && (decide (2 < x3) && true && true && true && (decide (0 + n * 1 + 2 < List.length cs) && true && (isInt IntKind.u8 x12 && true) && true && true && true) && true && true && (!!decide (intOf x12 = 114) && true) && true && true) && (decide (3 < x3) && true && (decide (3 < x3) && true && true && true && (decide (0 + n * 1 + 3 < List.length cs) && true && (isInt IntKind.u8 x13 && true) && true && true && true) && true && true && (!decide (intOf x13 = 107) && true) && true && true) && true))) && true && true) && true && true && true)) && (same x7 x7 && (same x7 x7 && true) && (x5 && (x5 && true) && (x5 && (x5 && true) && (same x9 x9 && (same x9 x9 && true) && (x8 && x6 && x4 && true && true && (same x2 x2 && (x8 && x6 && x4 && true && true && (same x2 x2 && true))) && (x5 && true && (same (Value.int .u64 m) (Value.int .u64 m) && true && true)))))) && true) && true && true, ((XE.ret, ([none, none, none, none, some (Value.int .u64 0)] ++ nn 19), ⟨(.node (ch 4 6 (lr (List.take 12 (List.drop 0 x1) ++ leB (Int.toNat (sumFrom (sumSeed (n : Int)) (List.take 12 (List.drop 0 x1)))) 8) 1 false)) (some (Ent.row cs 1 ro)) .leaf), 80, 0⟩), []))) := by kernel_rfl
theorem okOrc2 : OrcSound Tryz.prog orc2 := fun f F h => by
 unfold orc2 at h
 split at h
 ·cases h; rename_i hf; subst hf; exact getF_sound
 ·split at h
  ·cases h; rename_i hf; subst hf; exact sumF_sound
  ·split at h
   ·cases h; rename_i hf; subst hf; exact putF_sound
   ·split at h
    ·cases h; rename_i hf; subst hf; exact readFn_sound
    ·cases h
noncomputable abbrev xc2 : XCall := xgoO Tryz.prog okN orc2 kp 100
theorem yx2 : YX yc2 xc2 := ygo_is orc2 kp 100
theorem call2 : CallSound Tryz.prog xc2 := xgoO_sound mixed okN_ok okN_good okOrc2 kp 100
abbrev Run17 := Runs Tryz.prog okN xc2 (kp 36)
theorem code17 : codeOf Tryz.prog 36 = .seq (sub (codeOf Tryz.prog 36) [0]) (.seq (sub (codeOf Tryz.prog 36) [1,0]) (.seq (sub (codeOf Tryz.prog 36) [1,1,0]) (sub (codeOf Tryz.prog 36) [1,1,1]))) := by kernel_rfl
theorem body17 : Tryz.f36.body = some (codeOf Tryz.prog 36) := by kernel_rfl
theorem Runs.seq2 {P : Program} {okF : FuncId → Bool} {call : XCall} {fg : Nat → Option Nat} {x y z : Code} {a a1 a' : XAct} {S S1 S' : St} {e : XE} (h : Runs P okF call fg (.seq x y) a S .normal a1 S1) (h' : Runs P okF call fg z a1 S1 e a' S') : Runs P okF call fg (.seq x (.seq y z)) a S e a' S' := by
 obtain ⟨n, h⟩ := h
 cases n with
 | zero => simp [xcode] at h
 | succ n =>
  simp only [xcode] at h
  cases hx : xcode P okF call fg n x a S with
  | none => rw [hx] at h; cases h
  | some q =>
   obtain ⟨e0, a0, S0⟩ := q
   rw [hx] at h
   cases e0 with
   | normal => exact Runs.seq ⟨n, hx⟩ (Runs.seq ⟨n, h⟩ h')
   | exit i => simp [XOut.then] at h
   | ret => simp [XOut.then] at h
def noMark (cs : List Value) (n : Nat) : Bool :=
 !(decide (byteN cs n = 109) && decide (byteN cs (n + 1) = 97) && decide (byteN cs (n + 2) = 114) && decide (byteN cs (n + 3) = 107))
theorem marked_runs {n len cap : Nat} {cs : List Value} {ro : Bool} (hlen : len < 2 ^ 40) (hlc : len ≤ cap) (hn : n + 20 ≤ len) (hcs : len ≤ cs.length) (hb : cs.all isByte = true) (hm : noMark cs n = true) :
 ∃ a' T, Run17 (codeOf Tryz.prog 36) (startX Tryz.f36 [.slice (some ⟨0, 0, none⟩) len cap, .int .i64 (n : Int)]) (sumHeap cs ro) .ret a' T ∧
  xres Tryz.prog Tryz.f36 a' T = some (.int .u64 0) ∧ T.heap.get 0 = some (.row cs 1 ro) ∧ 1 ≤ T.next ∧ T.next ≤ 80 ∧ T.glob = 0 := by
 have hi : ∀ i, i < cs.length → isInt .u8 (cs.getD i undefX) = true := fun i hi => isByte_int (byte_at hb hi)
 have hall := bytes_ints hb
 have e4 : IntKind.wrap IntKind.i64 ((n : Int) + 4) = ((n + 4 : Nat) : Int) := wrapAdd (b := 4) (by omega)
 have e12 : IntKind.wrap IntKind.i64 ((n : Int) + 12) = ((n + 12 : Nat) : Int) := wrapAdd (b := 12) (by omega)
 have e20 : IntKind.wrap IntKind.i64 ((n : Int) + 20) = ((n + 20 : Nat) : Int) := wrapAdd (b := 20) (by omega)
 have h0 := Runs.path yx2 (markedP n len cap cs ro) (by
  rw [e4, e12]; simp only [true_and, and_true, hall, Bool.and_true, Bool.and_eq_true, decide_eq_true_eq, Int.toNat_natCast]; omega)
 have eM : getFrom 0 0 ((cs.drop (0 + (n + 4) * 1)).take (n + 12 - (n + 4))) = ((leN ((cs.drop (n + 4)).take 8) : Nat) : Int) := by
  rw [show n + 12 - (n + 4) = 8 by omega, show 0 + (n + 4) * 1 = n + 4 by omega]
  exact get_eq _ len_get (take_bytes hb _ _)
 rw [e4, e12, Int.toNat_natCast, Int.toNat_natCast, eM] at h0
 generalize leN ((cs.drop (n + 4)).take 8) = m at h0
 have hL : List.all (List.take 4 (List.drop 0 (splice (splice (splice (splice (zerosL [Value.int IntKind.u8 0] 4) 0 [Value.int IntKind.u8 109]) 1 [Value.int IntKind.u8 97]) 2 [Value.int IntKind.u8 114]) 3 [Value.int IntKind.u8 107])) ++ leB m 8) isByte = true := by
  rw [List.all_append, leB_bytes, Bool.and_true]; rfl
 have t0 := hi (0 + n * 1 + 0) (by omega)
 have t1 := hi (0 + n * 1 + 1) (by omega)
 have t2 := hi (0 + n * 1 + 2) (by omega)
 have t3 := hi (0 + n * 1 + 3) (by omega)
 have en : 0 + n * 1 = n := by omega
 rw [code17]
 unfold noMark byteN at hm
 by_cases c0 : intOf (cs.getD (0 + n * 1 + 0) undefX) = 109
 case neg =>
  refine ⟨_, _, Runs.seq2 h0 (Runs.seq_ret (Runs.path yx2 (marked0 m n len cap cs ro) ?_)), by kernel_rfl, rfl, Nat.le_of_ble_eq_true rfl, Nat.le_of_ble_eq_true rfl, rfl⟩
  rw [e20]
  simp only [true_and, and_true, Bool.not_not, Bool.not_false, Bool.not_true, same_int, same_slice, same_bool, same_ptr, t0, hL, decide_eq_false c0, Bool.and_true, Bool.and_eq_true, decide_eq_true_eq, Int.toNat_natCast]; omega
 by_cases c1 : intOf (cs.getD (0 + n * 1 + 1) undefX) = 97
 case neg =>
  refine ⟨_, _, Runs.seq2 h0 (Runs.seq_ret (Runs.path yx2 (marked1 m n len cap cs ro) ?_)), by kernel_rfl, rfl, Nat.le_of_ble_eq_true rfl, Nat.le_of_ble_eq_true rfl, rfl⟩
  rw [e20]
  simp only [true_and, and_true, Bool.not_not, Bool.not_false, Bool.not_true, same_int, same_slice, same_bool, same_ptr, t0, t1, hL, decide_eq_true c0, decide_eq_false c1, Bool.and_true, Bool.and_eq_true, decide_eq_true_eq, Int.toNat_natCast]; omega
 by_cases c2 : intOf (cs.getD (0 + n * 1 + 2) undefX) = 114
 case neg =>
  refine ⟨_, _, Runs.seq2 h0 (Runs.seq_ret (Runs.path yx2 (marked2 m n len cap cs ro) ?_)), by kernel_rfl, rfl, Nat.le_of_ble_eq_true rfl, Nat.le_of_ble_eq_true rfl, rfl⟩
  rw [e20]
  simp only [true_and, and_true, Bool.not_not, Bool.not_false, Bool.not_true, same_int, same_slice, same_bool, same_ptr, t0, t1, t2, hL, decide_eq_true c0, decide_eq_true c1, decide_eq_false c2, Bool.and_true, Bool.and_eq_true, decide_eq_true_eq, Int.toNat_natCast]; omega
 have c3 : ¬ intOf (cs.getD (0 + n * 1 + 3) undefX) = 107 := by
  rw [en] at c0 c1 c2 ⊢
  intro c3
  rw [decide_eq_true (show intOf (cs.getD n undefX) = 109 from c0), decide_eq_true c1, decide_eq_true c2, decide_eq_true c3] at hm
  cases hm
 refine ⟨_, _, Runs.seq2 h0 (Runs.seq_ret (Runs.path yx2 (marked3 m n len cap cs ro) ?_)), by kernel_rfl, rfl, Nat.le_of_ble_eq_true rfl, Nat.le_of_ble_eq_true rfl, rfl⟩
 rw [e20]
 simp only [true_and, and_true, Bool.not_not, Bool.not_false, Bool.not_true, same_int, same_slice, same_bool, same_ptr, t0, t1, t2, t3, hL, decide_eq_true c0, decide_eq_true c1, decide_eq_true c2, decide_eq_false c3, Bool.and_true, Bool.and_eq_true, decide_eq_true_eq, Int.toNat_natCast]; omega
def markedFn (args : List Value) (S : St) : Y (Value × St) :=
 match args with
 | [.slice (some ⟨b, 0, none⟩) len cap, .int .i64 at'] => match S.heap.get b with
  | some (.row cs 1 ro) => .req (decide (len < 1099511627776)) (.req (decide (len ≤ cap)) (.req (decide (0 ≤ at')) (.req (decide (at'.toNat + 20 ≤ len)) (.req (decide (len ≤ cs.length)) (.req (cs.all isByte) (.req (noMark cs at'.toNat)
   (.pure (.int .u64 0, { S with next := S.next + 79 }))))))))
  | _ => none
 | _ => none
theorem markedFn_sound (args : List Value) (S : St) (v : Value) (S' : St) (hx : markedFn args S = some (true, (v, S'))) (α : Place) (w : World) (args' : Array Value) (h : Rel α S w) (ha : LRel α args args'.toList) :
 Calls Tryz.prog 36 args' w fun e w' => ∃ β v', e = .returned v' ∧ Next α S w β S' w' ∧ VRel β v v' := by
 unfold markedFn at hx
 split at hx
 ·rename_i b len cap at'
  split at hx
  ·rename_i cs ro hb
   simp only [Y.req_is, Y.pure_is, decide_eq_true_eq, Prod.mk.injEq] at hx
   obtain ⟨h1, h2, h3, h4, h5, h6, h7, rfl, rfl⟩ := hx
   obtain ⟨n, rfl⟩ : ∃ n : Nat, at' = (n : Int) := ⟨at'.toNat, by omega⟩
   rw [Int.toNat_natCast] at *
   refine one_none h hb (fun π => .plain (ints_plain (bytes_ints h6))) (fun π => .int _ _) (fun hr => ?_)
   obtain ⟨a', T, hrun, hres, g1, g2, g3, g4⟩ := marked_runs (cap := cap) (ro := ro) (by omega) h2 h4 h5 h6 h7
   have hl : LRel (fun i => α (pi1 b S i)) [.slice (some ⟨0, 0, none⟩) len cap, .int .i64 (n : Int)] args'.toList :=
    (RenL.lrel (π := pi1 b S) (.cons (.slice 0 0 len cap) (.cons (.int _ _) .nil)) α _).2 (by simpa [pi1] using ha)
   refine (Runs.calls mixed okN_ok call2 Tryz.func36 body17 (okN_good 36 _ _ rfl Tryz.func36 body17) hrun (.inr rfl) hres hr hl).mono ?_
   rintro x w' ⟨β, v', rfl, hn, hv⟩
   refine ⟨β, v', rfl, ?_, hv⟩
   have := hn.widen (m := 80) g3
   refine this.same (fun i e hi => ?_) rfl (by simpa using g4.symm)
   obtain ⟨rfl, rfl⟩ := get1 hi
   exact g1
  ·cases hx
 ·cases hx
theorem imageV (a m p len cap : Nat) (c : UInt8) (cs : List Value) : ycode Tryz.prog okN yc2 (kp 61) 100 (codeOf Tryz.prog 61) (startX Tryz.f61 [.int .i64 (a : Int), .int .u64 (m : Int), .int .u64 (p : Int), .bool false, .string ⟨#[c]⟩, .slice (ad 0) len cap]) { heap := PT.leaf.set 0 (some (.row cs 1 false)), next := 1, glob := 0 } (bits 5 0) = (let x1 := List.take 3 (List.drop 0 (splice (splice (splice (zerosL [Value.int .u8 0] 3) 0 [Value.int .u8 99]) 1 [Value.int .u8 107]) 2 [Value.int .u8 0])) ++ leB m 8; let x4 := List.take 11 (List.drop 0 x1) ++ leB p 8; let x0 := List.take ((25 + List.length [c]) * 1) (List.drop 0 (List.take 25 (List.drop 0 (List.take 21 (List.drop 0 (List.take 19 (List.drop 0 x4) ++ leB (Int.toNat (IntKind.wrap .u64 (↑(List.length [c]) : Int))) 2)) ++ leB (Int.toNat (IntKind.wrap .u64 (len : Int))) 4)) ++ byteVals (List.take (List.length [c]) [c]))) ++ List.take (len * 1) (List.drop 0 cs); let x2 := decide (0 + (25 + List.length [c] + len) ≤ List.length x0); let x3 := List.take (25 + List.length [c] + len) (List.drop 0 x0); some (decide (0 ≤ (m : Int)) && true && true && true && true && (decide (0 ≤ (p : Int)) && (List.all x1 isByte && true) && true && true && true && (decide (0 ≤ IntKind.wrap .u64 (↑(List.length [c]) : Int)) && (List.all x4 isByte && true) && true && true && true && (decide (0 ≤ IntKind.wrap .u64 (len : Int)) && (List.all (List.take 19 (List.drop 0 x4) ++ leB (Int.toNat (IntKind.wrap .u64 (↑(List.length [c]) : Int))) 2) isByte && true) && true && true && true && (!decide (List.length [c] = 0) && true && (!decide (25 + List.length [c] ≤ 25) && (decide ((25 + List.length [c]) * 1 ≤ 140737488355328) && (decide (25 + List.length [c] ≤ 9223372036854775807) && true))) && true && true && (!decide (len = 0) && (decide (0 + len * 1 ≤ List.length cs) && true) && (decide (25 + List.length [c] ≤ 25 + List.length [c]) && (!decide (25 + List.length [c] + len ≤ 25 + List.length [c]) && (decide ((25 + List.length [c] + len) * 1 ≤ 140737488355328) && (decide (25 + List.length [c] + len ≤ 9223372036854775807) && (List.all x0 one && true && true))))) && true && true && true) && true && (decide (25 + List.length [c] + len < 4611686018427387904) && (x2 && (List.all x0 (isInt IntKind.u8) && true)) && true && (decide (25 + List.length [c] + len = 25 + List.length [c] + len) && (decide (25 + List.length [c] + len < 1099511627776) && (decide (0 ≤ sumFrom (sumSeed (a : Int)) x3) && (x2 && (List.all x0 isByte && true)))) && true && true) && true && true))))), ((XE.ret, (nn 12 ++ [some (Value.slice (ad 63) (25 + List.length [c] + len + 8) (25 + List.length [c] + len + 8))] ++ nn 31), ⟨(.node (nd (ch 2 0 (nd (le (lr (List.take (25 + List.length [c] + len) (List.drop 0 x0) ++ leB (Int.toNat (sumFrom (sumSeed (a : Int)) x3)) 8) 1 false)) (l0))) (nd (ch 2 0 (l0)) (nd (le (l0)) (le (l0))))) (some (Ent.row cs 1 false)) (ch 4 7 (l0))), 64, 0⟩), []))) := by kernel_rfl
theorem imageE (a m p len cap : Nat) (c : UInt8) (cs : List Value) : ycode Tryz.prog okN yc2 (kp 61) 100 (codeOf Tryz.prog 61) (startX Tryz.f61 [.int .i64 (a : Int), .int .u64 (m : Int), .int .u64 (p : Int), .bool false, .string ⟨#[c]⟩, .slice (ad 0) len cap]) { heap := PT.leaf.set 0 (some (.row cs 1 false)), next := 1, glob := 0 } (bits 5 8) = (let x1 := List.take 3 (List.drop 0 (splice (splice (splice (zerosL [Value.int .u8 0] 3) 0 [Value.int .u8 99]) 1 [Value.int .u8 107]) 2 [Value.int .u8 0])) ++ leB m 8; let x2 := List.take 11 (List.drop 0 x1) ++ leB p 8; let x0 := List.take 25 (List.drop 0 (List.take 21 (List.drop 0 (List.take 19 (List.drop 0 x2) ++ leB (Int.toNat (IntKind.wrap .u64 (↑(List.length [c]) : Int))) 2)) ++ leB (Int.toNat (IntKind.wrap .u64 (len : Int))) 4)) ++ byteVals (List.take (List.length [c]) [c]); some (decide (0 ≤ (m : Int)) && true && true && true && true && (decide (0 ≤ (p : Int)) && (List.all x1 isByte && true) && true && true && true && (decide (0 ≤ IntKind.wrap .u64 (↑(List.length [c]) : Int)) && (List.all x2 isByte && true) && true && true && true && (decide (0 ≤ IntKind.wrap .u64 (len : Int)) && (List.all (List.take 19 (List.drop 0 x2) ++ leB (Int.toNat (IntKind.wrap .u64 (↑(List.length [c]) : Int))) 2) isByte && true) && true && true && true && (!decide (List.length [c] = 0) && true && (!decide (25 + List.length [c] ≤ 25) && (decide ((25 + List.length [c]) * 1 ≤ 140737488355328) && (decide (25 + List.length [c] ≤ 9223372036854775807) && true))) && true && true && (decide (len = 0) && true && (decide (25 + List.length [c] ≤ 25 + List.length [c]) && true) && true && true && true) && true && (decide (25 + List.length [c] < 4611686018427387904) && true && true && (decide (25 + List.length [c] = 25 + List.length [c]) && (decide (25 + List.length [c] < 1099511627776) && (List.all x0 isByte && true)) && true && true) && true && true))))), ((XE.ret, (nn 12 ++ [some (Value.slice (ad 62) (25 + List.length [c] + 8) (25 + List.length [c] + 8))] ++ nn 31), ⟨(.node (ri (nd (ch 2 0 (l0)) (nd (le (l0)) (le (l0))))) (some (Ent.row cs 1 false)) (ch 3 7 (nd (l0) (lr (List.take (25 + List.length [c]) (List.drop 0 x0) ++ leB (Int.toNat (sumFrom (sumSeed (a : Int)) (List.take (25 + List.length [c]) (List.drop 0 x0)))) 8) 1 false)))), 63, 0⟩), []))) := by kernel_rfl
structure EmbG (d : Nat) (π : Nat → Nat) (C S : St) : Prop where
 inj : ∀ i j, i < C.next → j < C.next → π i = π j → i = j
 lt : ∀ i, i < C.next → π i < S.next
 new : ∀ i, C.next ≤ i → π i = S.next + d + (i - C.next)
 glob : C.glob = 0
section
variable {π : Nat → Nat} {C C' S S' : St} {α γ : Place} {w w' : World}
theorem Rel.smallG {d : Nat} (h : Rel α S w) (e : EmbG d π C S) (hc : ∀ i x, C.heap.get i = some x → i < C.next ∧ ∃ y, S.heap.get (π i) = some y ∧ RenE π x y) : Rel (fun i => α (π i)) C w := by
 refine ⟨fun i x hi => ?_, fun i j x y l m hij hi hj hro hl hm => ?_, fun i l hl => ?_, fun i l hl => h.size _ l hl, fun i l hi hl => ?_, by rw [e.glob]; exact Nat.zero_le _⟩
 ·obtain ⟨_, y, hy, hr⟩ := hc i x hi
  obtain ⟨l, hl, hent⟩ := h.ent _ y hy
  exact ⟨l, hl, (hr.rel α w l).2 hent⟩
 ·obtain ⟨hi1, x', hx', hrx⟩ := hc i x hi
  obtain ⟨hj1, y', hy', hry⟩ := hc j y hj
  refine h.apart (π i) (π j) x' y' l m (fun he => hij (e.inj i j hi1 hj1 he)) hx' hy' ?_ hl hm
  rw [← hrx.ro, ← hry.ro]; exact hro
 ·rcases Nat.lt_or_ge i C.next with hlt | hge
  ·exact hlt
  ·have := h.fresh _ l hl
   rw [e.new i hge] at this
   omega
 ·rw [e.glob] at hi; omega
theorem Next.largeG {d : Nat} (h : Rel α S w) (e : EmbG d π C S) (hc : ∀ i x, C.heap.get i = some x → i < C.next ∧ ∃ y, S.heap.get (π i) = some y ∧ RenE π x y) {βc : Place} (n : Next (fun i => α (π i)) C w βc C' w')
 (hn : S'.next = S.next + d + (C'.next - C.next)) (hg : S'.glob = S.glob)
 (hu : ∀ k y, S'.heap.get k = some y → (∃ i x, k = π i ∧ C'.heap.get i = some x ∧ RenE π x y ∧ (y.ro = true → S.heap.get k = some y)) ∨ (S.heap.get k = some y ∧ k < S.next ∧ ∀ i x, C.heap.get i = some x → k ≠ π i)) :
 ∃ β : Place, Next α S w β S' w' ∧ βc = fun i => β (π i) := by
 let β : Place := fun k => if k < S.next then α k else if k < S.next + d then none else βc (C.next + (k - S.next - d))
 have hβlt : ∀ k, k < S.next → β k = α k := fun k hk => by simp only [β, if_pos hk]
 have hβ : βc = fun i => β (π i) := by
  funext i
  rcases Nat.lt_or_ge i C.next with hlt | hge
  ·rw [n.old i hlt, hβlt _ (e.lt i hlt)]
  ·simp only [β]
   rw [e.new i hge, if_neg (by omega), if_neg (by omega)]
   congr 1
   omega
 have hext : α.Ext β := fun k l hk => by rw [hβlt k (h.fresh k l hk)]; exact hk
 have hnx := n.next
 have stay : ∀ k y l, S.heap.get k = some y → (∀ i x, C.heap.get i = some x → k ≠ π i) → α k = some l → w'.heap[l.blk]? = w.heap[l.blk]? := by
  intro k y l hk hno hl
  refine n.frame.block _ (h.size k l hl) (fun i x m hi hro hm => ?_)
  obtain ⟨hi1, x', hx', hr⟩ := hc i x hi
  exact h.apart (π i) k x' y m l (fun he => hno i x hi he.symm) hx' hk (.inl (by rw [← hr.ro]; exact hro)) hm hl
 have far : ∀ i x x' m k y l, C'.heap.get i = some x → RenE π x x' → (x'.ro = true → S.heap.get (π i) = some x') → S.heap.get k = some y → (∀ j z, C.heap.get j = some z → k ≠ π j) → (x'.ro = false ∨ y.ro = false) → β (π i) = some m → α k = some l → m.blk ≠ l.blk := by
  intro i x x' m k y l hi hr hold hk hno hro hm hl
  have hlt := h.size k l hl
  have hmc : βc i = some m := by rw [hβ]; exact hm
  cases hx : x.ro with
  | false =>
   rcases n.kept i x m hi hx hmc with h1 | ⟨j, z, q, hj, hzr, hq, hqm⟩
   ·omega
   ·obtain ⟨hj1, z', hz', hrz⟩ := hc j z hj
    have := h.apart (π j) k z' y q l (fun he => hno j z hj he.symm) hz' hk (.inl (by rw [← hrz.ro]; exact hzr)) hq hl
    omega
  | true =>
   have hxr : x'.ro = true := by rw [← hr.ro]; exact hx
   have hyr : y.ro = false := by rcases hro with hro | hro; (rw [hxr] at hro; cases hro); exact hro
   have hCi := n.ros i x hi hx
   obtain ⟨hi1, _⟩ := hc i x hCi
   have hm' : α (π i) = some m := by rw [← hβlt _ (e.lt i hi1)]; exact hm
   exact h.apart (π i) k x' y m l (fun he => hno i x hCi he.symm) (hold hxr) hk (.inr hyr) hm' hl
 refine ⟨β, ⟨hext, ⟨?_, ?_, ?_, ?_, ?_, ?_⟩, ⟨n.frame.size, ?_, n.frame.os, n.frame.tape, n.frame.output⟩, ?_, by omega, hg, fun i hi => hβlt i hi, ?_, ?_⟩, hβ⟩
 ·intro k y hk
  rcases hu k y hk with ⟨i, x, rfl, hi, hr, _⟩ | ⟨h1, h2, h3⟩
  ·obtain ⟨l, hl, hent⟩ := n.rel.ent i x hi
   rw [hβ] at hl hent
   exact ⟨l, hl, (hr.rel β w' l).1 hent⟩
  ·obtain ⟨l, hl, hent⟩ := h.ent k y h1
   exact ⟨l, hext _ _ hl, (hent.mono hext).of_block (stay k y l h1 h3 hl)⟩
 ·intro k k' y y' l m hkk hk hk' hro hl hm
  rcases hu k y hk with ⟨i, x, rfl, hi, hr, hold⟩ | ⟨h1, h2, h3⟩
  ·rcases hu k' y' hk' with ⟨j, z, rfl, hj, hrz, hold'⟩ | ⟨g1, g2, g3⟩
   ·refine n.rel.apart i j x z l m (fun he => hkk (by rw [he])) hi hj (by rw [hr.ro, hrz.ro]; exact hro) (by rw [hβ]; exact hl) (by rw [hβ]; exact hm)
   ·rw [hβlt _ g2] at hm
    exact far i x y l k' y' m hi hr hold g1 g3 hro hl hm
  ·rw [hβlt _ h2] at hl
   rcases hu k' y' hk' with ⟨j, z, rfl, hj, hrz, hold'⟩ | ⟨g1, g2, g3⟩
   ·exact Ne.symm (far j z y' m k y l hj hrz hold' h1 h3 hro.symm hm hl)
   ·rw [hβlt _ g2] at hm
    exact h.apart k k' y y' l m hkk h1 g1 hro hl hm
 ·intro k l hl
  rw [hn]
  rcases Nat.lt_or_ge k S.next with hlt | hge
  ·omega
  ·simp only [β, if_neg (Nat.not_lt.2 hge)] at hl
   split at hl
   ·cases hl
   ·have := n.rel.fresh _ l hl
    omega
 ·intro k l hl
  rcases Nat.lt_or_ge k S.next with hlt | hge
  ·rw [hβlt _ hlt] at hl
   exact Nat.lt_of_lt_of_le (h.size k l hl) n.frame.size
  ·simp only [β, if_neg (Nat.not_lt.2 hge)] at hl
   split at hl
   ·cases hl
   ·exact n.rel.size _ l hl
 ·intro k l hk hl
  rw [hg] at hk
  rw [hβlt _ (Nat.lt_of_lt_of_le hk h.gle)] at hl
  exact h.glob k l hk hl
 ·rw [hg, hn]; have := h.gle; omega
 ·intro b hb hne
  refine n.frame.block b hb (fun i x l hi hro hl => ?_)
  obtain ⟨hi1, y, hy, hr⟩ := hc i x hi
  exact hne (π i) y l hy (by rw [← hr.ro]; exact hro) hl
 ·intro k y m hk hro hm
  rcases hu k y hk with ⟨i, x, rfl, hi, hr, _⟩ | ⟨h1, h2, h3⟩
  ·rcases n.kept i x m hi (by rw [hr.ro]; exact hro) (by rw [hβ]; exact hm) with h1 | ⟨j, z, q, hj, hzr, hq, hqm⟩
   ·exact .inl h1
   ·obtain ⟨hj1, z', hz', hrz⟩ := hc j z hj
    exact .inr ⟨π j, z', q, hz', by rw [← hrz.ro]; exact hzr, hq, hqm⟩
  ·rw [hβlt _ h2] at hm
   exact .inr ⟨k, y, m, h1, hro, hm, rfl⟩
 ·intro k y hk hlt
  rcases hu k y hk with ⟨i, x, rfl, hi, hr, _⟩ | ⟨h1, h2, h3⟩
  ·have hilt : i < C.next := by
    rcases Nat.lt_or_ge i C.next with h1 | h1
    ·exact h1
    ·rw [e.new i h1] at hlt; omega
   obtain ⟨z, hz⟩ := n.ids i x hi hilt
   obtain ⟨_, z', hz', _⟩ := hc i z hz
   exact ⟨z', hz'⟩
  ·exact ⟨y, h1⟩
 ·intro k y hk hro
  rcases hu k y hk with ⟨i, x, rfl, hi, hr, hold⟩ | ⟨h1, h2, h3⟩
  ·exact hold hro
  ·exact h1
end
def pi1g (d b : Nat) (S : St) : Nat → Nat := fun i => if i = 0 then b else S.next + d + (i - 1)
theorem emb1g {d b : Nat} {S : St} {e : Ent} (hb : b < S.next) : EmbG d (pi1g d b S) { heap := PT.leaf.set 0 (some e), next := 1, glob := 0 } S :=
 { inj := fun i j hi hj _ => by
    have h1 : i < 1 := hi
    have h2 : j < 1 := hj
    omega
   lt := fun i hi => by
    have h1 : i < 1 := hi
    obtain rfl : i = 0 := by omega
    simpa [pi1g] using hb
   new := fun i hi => by
    have h1 : 1 ≤ i := hi
    show (if i = 0 then b else S.next + d + (i - 1)) = S.next + d + (i - 1)
    rw [if_neg (by omega)]
   glob := rfl }
section
variable {P : Program} {f : FuncId} {b : Nat} {e e2 : Ent} {α : Place} {S : St} {w : World} {v v2 : Value} {args' : Array Value} {k K d : Nat}
theorem one_newG (hk1 : 1 ≤ k) (hkK : k ≤ K) (h : Rel α S w) (hb : S.heap.get b = some e) (he : ∀ π, RenE π e e) (he2 : ∀ π, RenE π e2 e2) (hro : e2.ro = false) (hv : RenV (pi1g d b S) v v2)
 (hc : Rel (fun i => α (pi1g d b S i)) { heap := PT.leaf.set 0 (some e), next := 1, glob := 0 } w →
  Calls P f args' w fun x w' => ∃ β v', x = .returned v' ∧ Next (fun i => α (pi1g d b S i)) { heap := PT.leaf.set 0 (some e), next := 1, glob := 0 } w β { heap := (PT.leaf.set 0 (some e)).set k (some e2), next := 1 + K, glob := 0 } w' ∧ VRel β v v') :
 Calls P f args' w fun x w' => ∃ β v', x = .returned v' ∧ Next α S w β { S with heap := S.heap.set (S.next + d + (k - 1)) (some e2), next := S.next + d + K } w' ∧ VRel β v2 v' := by
 have hlt := h.live_lt hb
 have hsm : ∀ i x, (PT.leaf.set 0 (some e)).get i = some x → i < 1 ∧ ∃ y, S.heap.get (pi1g d b S i) = some y ∧ RenE (pi1g d b S) x y := by
  intro i x hx
  obtain ⟨rfl, rfl⟩ := get1 hx
  exact ⟨by omega, x, by simpa [pi1g] using hb, he _⟩
 refine (hc (h.smallG (emb1g hlt) hsm)).mono ?_
 rintro x w' ⟨β, v', rfl, hn, hvr⟩
 obtain ⟨γ, hg, hβ⟩ := hn.largeG (S' := { S with heap := S.heap.set (S.next + d + (k - 1)) (some e2), next := S.next + d + K }) h (emb1g hlt) hsm (by simp) rfl (fun j y hj => by
  have hj' : (S.heap.set (S.next + d + (k - 1)) (some e2)).get j = some y := hj
  rw [PT.get_set] at hj'
  split at hj'
  ·rename_i hjk
   cases hj'
   refine .inl ⟨k, e2, ?_, by rw [PT.get_set_same], he2 _, fun hr => by rw [hro] at hr; cases hr⟩
   rw [hjk]
   show _ = if k = 0 then b else _
   rw [if_neg (by omega)]
  ·by_cases hkb : j = b
   ·subst hkb
    rw [hb] at hj'; cases hj'
    exact .inl ⟨0, e, by simp [pi1g], by rw [PT.get_set, if_neg (by omega), PT.get_set_same], he _, fun _ => hb⟩
   ·refine .inr ⟨hj', h.live_lt hj', fun i x hx => ?_⟩
    obtain ⟨rfl, _⟩ := get1 hx
    simpa [pi1g] using hkb)
 exact ⟨γ, v', rfl, hg, (hv γ v').1 (by rw [← hβ]; exact hvr)⟩
end
def natStep (h b : Nat) : Nat :=
 let x := (h ^^^ b) * 1099511628211 % 2 ^ 64
 x ^^^ (x >>> 31)
def natSum (h : Nat) : List Nat → Nat
 | [] => h
 | b :: r => natSum (natStep h b) r
def natSeed (at' : Nat) : Nat := 14695981039346656037 ^^^ (at' * 11400714819323198485 % 2 ^ 64)
theorem wrapU64m (n : Nat) : IntKind.wrap .u64 (n : Int) = ((n % 2 ^ 64 : Nat) : Int) := by
 unfold IntKind.wrap
 have hb : IntKind.u64.bits = 64 := rfl
 have hs : IntKind.u64.signed = false := rfl
 rw [hb, hs]
 simp only [Bool.false_and, Bool.false_eq_true, if_false]
 rfl
theorem xorOf {a b : Nat} (ha : a < 2 ^ 64) (hb : b < 2 ^ 64) : (BitVec.ofInt 64 (a : Int) ^^^ BitVec.ofInt 64 (b : Int)).toNat = a ^^^ b := by
 rw [BitVec.ofInt_natCast, BitVec.ofInt_natCast, BitVec.toNat_xor, BitVec.toNat_ofNat, BitVec.toNat_ofNat, Nat.mod_eq_of_lt ha, Nat.mod_eq_of_lt hb]
theorem natStep_lt (h b : Nat) : natStep h b < 2 ^ 64 := by
 have hx : (h ^^^ b) * 1099511628211 % 2 ^ 64 < 2 ^ 64 := Nat.mod_lt _ (by decide)
 refine Nat.xor_lt_two_pow hx ?_
 exact Nat.lt_of_le_of_lt (by rw [Nat.shiftRight_eq_div_pow]; exact Nat.div_le_self _ _) hx
theorem natSeed_lt (a : Nat) : natSeed a < 2 ^ 64 := Nat.xor_lt_two_pow (by decide) (Nat.mod_lt _ (by decide))
theorem natSum_lt : ∀ {l : List Nat} {h : Nat}, h < 2 ^ 64 → natSum h l < 2 ^ 64
 | [], _, hh => hh
 | b :: r, h, _ => natSum_lt (l := r) (natStep_lt h b)
theorem sumStep_eq {h b : Nat} (hh : h < 2 ^ 64) (hb : b < 2 ^ 64) : sumStep (h : Int) (b : Int) = (natStep h b : Int) := by
 have hx : (h ^^^ b) * 1099511628211 % 2 ^ 64 < 2 ^ 64 := Nat.mod_lt _ (by decide)
 have h1 : h ^^^ b < 2 ^ 64 := Nat.xor_lt_two_pow hh hb
 have e1 : IntKind.wrap IntKind.u64 (IntKind.wrap IntKind.u64 ↑(BitVec.toNat (BitVec.ofInt 64 (h : Int) ^^^ BitVec.ofInt 64 (IntKind.wrap IntKind.u64 (b : Int)))) * 1099511628211) = (((h ^^^ b) * 1099511628211 % 2 ^ 64 : Nat) : Int) := by
  rw [wrapU64 hb, xorOf hh hb, wrapU64 h1, show ((h ^^^ b : Nat) : Int) * 1099511628211 = (((h ^^^ b) * 1099511628211 : Nat) : Int) from (Int.natCast_mul (h ^^^ b) 1099511628211).symm, wrapU64m ((h ^^^ b) * 1099511628211)]
 unfold sumStep natStep
 rw [e1]
 generalize (h ^^^ b) * 1099511628211 % 2 ^ 64 = x at hx
 have e2 : Int.fdiv (x : Int) 2147483648 = ((x >>> 31 : Nat) : Int) := by
  rw [Int.fdiv_eq_ediv_of_nonneg _ (by decide), Nat.shiftRight_eq_div_pow]
  rfl
 have h3 : x >>> 31 < 2 ^ 64 := Nat.lt_of_le_of_lt (by rw [Nat.shiftRight_eq_div_pow]; exact Nat.div_le_self _ _) hx
 rw [e2, xorOf hx h3, wrapU64 (Nat.xor_lt_two_pow hx h3)]
def natsOf (l : List Value) : List Nat := l.map fun v => (intOf v).toNat
theorem sumFrom_eq : ∀ (l : List Value) (h : Nat), h < 2 ^ 64 → l.all isByte = true → sumFrom (h : Int) l = (natSum h (natsOf l) : Int)
 | [], h, _, _ => rfl
 | v :: r, h, hh, hb => by
  simp only [List.all_cons, Bool.and_eq_true] at hb
  obtain ⟨n, hn, rfl⟩ := isByte_nat hb.1
  simp only [sumFrom, intOf, natsOf, List.map_cons, natSum, Int.toNat_natCast]
  rw [sumStep_eq hh (by omega), sumFrom_eq r _ (natStep_lt h n) hb.2]
  rfl
theorem sumSeed_eq (a : Nat) (ha : a < 2 ^ 63) : sumSeed (a : Int) = (natSeed a : Int) := by
 unfold sumSeed natSeed
 have h1 : a * 11400714819323198485 % 2 ^ 64 < 2 ^ 64 := Nat.mod_lt _ (by decide)
 rw [wrapU64 (n := a) (by omega), show ((a : Nat) : Int) * 11400714819323198485 = ((a * 11400714819323198485 : Nat) : Int) from (Int.natCast_mul a 11400714819323198485).symm, wrapU64m (a * 11400714819323198485),
  show (14695981039346656037 : Int) = ((14695981039346656037 : Nat) : Int) from rfl, xorOf (by decide) h1, wrapU64 (Nat.xor_lt_two_pow (by decide) h1)]
theorem xor_cancel {a b c : Nat} (h : a ^^^ c = b ^^^ c) : a = b := by
 have : (a ^^^ c) ^^^ c = (b ^^^ c) ^^^ c := by rw [h]
 rwa [Nat.xor_assoc, Nat.xor_assoc, Nat.xor_self, Nat.xor_zero, Nat.xor_zero] at this
theorem fold31 {x : Nat} (h : x < 2 ^ 64) : (x ^^^ x >>> 31) ^^^ (x ^^^ x >>> 31) >>> 31 ^^^ (x ^^^ x >>> 31) >>> 62 = x := by
 have e1 : (x ^^^ x >>> 31) >>> 31 = x >>> 31 ^^^ x >>> 62 := by rw [Nat.shiftRight_xor_distrib, ← Nat.shiftRight_add]
 have e2 : (x ^^^ x >>> 31) >>> 62 = x >>> 62 := by
  rw [Nat.shiftRight_xor_distrib, ← Nat.shiftRight_add]
  have : x >>> (31 + 62) = 0 := by
   rw [Nat.shiftRight_eq_div_pow]
   exact Nat.div_eq_of_lt (Nat.lt_of_lt_of_le h (by decide))
  rw [this, Nat.xor_zero]
 rw [e1, e2, Nat.xor_assoc x, ← Nat.xor_assoc (x >>> 31), Nat.xor_self, Nat.zero_xor, Nat.xor_assoc, Nat.xor_self, Nat.xor_zero]
theorem mul_cancel {a b m n : Nat} (hmn : m * n % 2 ^ 64 = 1) (ha : a < 2 ^ 64) (hb : b < 2 ^ 64) (h : a * m % 2 ^ 64 = b * m % 2 ^ 64) : a = b := by
 have key : ∀ c, c < 2 ^ 64 → c * m % 2 ^ 64 * n % 2 ^ 64 = c := by
  intro c hc
  rw [Nat.mod_mul_mod, Nat.mul_assoc, Nat.mul_mod, hmn, Nat.mul_one, Nat.mod_mod, Nat.mod_eq_of_lt hc]
 rw [← key a ha, ← key b hb, h]
theorem natStep_inj {a b c : Nat} (ha : a < 2 ^ 64) (hb : b < 2 ^ 64) (hc : c < 2 ^ 64) (h : natStep a c = natStep b c) : a = b := by
 unfold natStep at h
 simp only at h
 have hx : (a ^^^ c) * 1099511628211 % 2 ^ 64 < 2 ^ 64 := Nat.mod_lt _ (by decide)
 have hy : (b ^^^ c) * 1099511628211 % 2 ^ 64 < 2 ^ 64 := Nat.mod_lt _ (by decide)
 have hxy : (a ^^^ c) * 1099511628211 % 2 ^ 64 = (b ^^^ c) * 1099511628211 % 2 ^ 64 := by rw [← fold31 hx, ← fold31 hy, h]
 exact xor_cancel (mul_cancel (n := 14886173955864302971) (by decide) (Nat.xor_lt_two_pow ha hc) (Nat.xor_lt_two_pow hb hc) hxy)
theorem natSum_inj : ∀ (l : List Nat) (a b : Nat), a < 2 ^ 64 → b < 2 ^ 64 → (∀ c ∈ l, c < 2 ^ 64) → natSum a l = natSum b l → a = b
 | [], a, b, _, _, _, h => h
 | c :: r, a, b, ha, hb, hc, h => natStep_inj ha hb (hc c (by simp)) (natSum_inj r _ _ (natStep_lt a c) (natStep_lt b c) (fun d hd => hc d (by simp [hd])) h)
theorem natSeed_inj {a b : Nat} (ha : a < 2 ^ 64) (hb : b < 2 ^ 64) (h : natSeed a = natSeed b) : a = b := by
 unfold natSeed at h
 rw [Nat.xor_comm, Nat.xor_comm 14695981039346656037 (b * _ % _)] at h
 exact mul_cancel (n := 17428512612931826493) (by decide) ha hb (xor_cancel h)
theorem sum_ne {l : List Nat} {a b : Nat} (hl : ∀ c ∈ l, c < 2 ^ 64) (ha : a < 2 ^ 64) (hb : b < 2 ^ 64) (h0 : natSum (natSeed b) l = 0) (hne : a ≠ b) : natSum (natSeed a) l ≠ 0 := by
 intro h
 exact hne (natSeed_inj ha hb (natSum_inj l _ _ (natSeed_lt a) (natSeed_lt b) hl (by rw [h, h0])))
def imgPre (m p : Nat) (c : UInt8) (vs : List Value) : List Value :=
 [.int .u8 99, .int .u8 107, .int .u8 0] ++ (leB m 8 ++ (leB p 8 ++ (leB 1 2 ++ (leB vs.length 4 ++ (byteVals [c] ++ vs)))))
def imgRow (a m p : Nat) (c : UInt8) (vs : List Value) : List Value :=
 imgPre m p c vs ++ leB (sumFrom (sumSeed (a : Int)) (imgPre m p c vs)).toNat 8
theorem byteVals_bytes : ∀ (l : List UInt8), (byteVals l).all isByte = true
 | [] => rfl
 | c :: r => by
  have h := byteVals_bytes r
  have hc : c.toNat < 256 := c.toNat_lt
  simp only [byteVals, List.map_cons, List.all_cons] at h ⊢
  rw [h, Bool.and_true]
  simp only [isByte, Bool.and_eq_true, decide_eq_true_eq]
  omega
theorem imgPre_bytes (m p : Nat) (c : UInt8) {vs : List Value} (h : vs.all isByte = true) : (imgPre m p c vs).all isByte = true := by
 unfold imgPre
 simp only [List.all_append, leB_bytes, byteVals_bytes, h, Bool.and_true]
 rfl
theorem imgRow_bytes (a m p : Nat) (c : UInt8) {vs : List Value} (h : vs.all isByte = true) : (imgRow a m p c vs).all isByte = true := by
 unfold imgRow
 rw [List.all_append, imgPre_bytes m p c h, leB_bytes]; rfl
theorem imgPre_length (m p : Nat) (c : UInt8) (vs : List Value) : (imgPre m p c vs).length = 26 + vs.length := by
 unfold imgPre
 simp only [List.length_append, leB_length, List.length_cons, List.length_nil, byteVals, List.length_map]; omega
theorem imgRow_length (a m p : Nat) (c : UInt8) (vs : List Value) : (imgRow a m p c vs).length = 34 + vs.length := by
 unfold imgRow
 rw [List.length_append, imgPre_length, leB_length]; omega
theorem leB_ints (m k : Nat) : (leB m k).all (isInt .u8) = true := bytes_ints (leB_bytes k m)
theorem wrap_nonneg (n : Int) : 0 ≤ IntKind.wrap .u64 n := by
 unfold IntKind.wrap
 have hb : IntKind.u64.bits = 64 := rfl
 have hs : IntKind.u64.signed = false := rfl
 rw [hb, hs]
 simp only [Bool.false_and, Bool.false_eq_true, if_false]
 exact Int.emod_nonneg _ (by decide)
theorem sumFrom_nonneg : ∀ (l : List Value) (h : Int), 0 ≤ h → 0 ≤ sumFrom h l
 | [], h, hh => hh
 | v :: r, h, _ => sumFrom_nonneg r _ (wrap_nonneg _)
theorem sum_nonneg (a : Int) (l : List Value) : 0 ≤ sumFrom (sumSeed a) l := sumFrom_nonneg l _ (wrap_nonneg _)
theorem takeAll0 {L : List Value} {m : Nat} (h : L.length ≤ m) : List.take m (List.drop 0 L) = L := by
 rw [List.drop_zero, List.take_of_length_le h]
abbrev Run44 := Runs Tryz.prog okN xc2 (kp 61)
theorem body44 : Tryz.f61.body = some (codeOf Tryz.prog 61) := by kernel_rfl
theorem head3 : List.take 3 (List.drop 0 (splice (splice (splice (zerosL [Value.int IntKind.u8 0] 3) 0 [Value.int IntKind.u8 99]) 1 [Value.int IntKind.u8 107]) 2 [Value.int IntKind.u8 0])) = [.int .u8 99, .int .u8 107, .int .u8 0] := rfl
theorem len1 (c : UInt8) : List.length [c] = 1 := rfl
theorem take1 (c : UInt8) : List.take 1 [c] = [c] := rfl
theorem bv1 (c : UInt8) : (byteVals [c]).length = 1 := rfl
theorem one3i : List.all [Value.int .u8 99, Value.int .u8 107, Value.int .u8 0] (isInt .u8) = true := rfl
theorem one3o : List.all [Value.int .u8 99, Value.int .u8 107, Value.int .u8 0] one = true := rfl
theorem one3 : List.all [Value.int .u8 99, .int .u8 107, .int .u8 0] isByte = true := rfl
theorem image_runs {a m p len cap : Nat} {c : UInt8} {cs : List Value} (hlen : len < 2 ^ 32) (hcs : len ≤ cs.length) (hb : cs.all isByte = true) :
 ∃ a' T k, Run44 (codeOf Tryz.prog 61) (startX Tryz.f61 [.int .i64 (a : Int), .int .u64 (m : Int), .int .u64 (p : Int), .bool false, .string ⟨#[c]⟩, .slice (some ⟨0, 0, none⟩) len cap]) { heap := PT.leaf.set 0 (some (.row cs 1 false)), next := 1, glob := 0 } .ret a' T ∧
  xres Tryz.prog Tryz.f61 a' T = some (.slice (some ⟨k, 0, none⟩) (26 + len + 8) (26 + len + 8)) ∧ T.heap.get 0 = some (.row cs 1 false) ∧ T.heap.get k = some (.row (imgRow a m p c (cs.take len)) 1 false) ∧ (k = 62 ∨ k = 63) ∧ T.next = 1 + k ∧ T.glob = 0 := by
 have hl1 : IntKind.wrap IntKind.u64 ((List.length [c] : Nat) : Int) = ((1 : Nat) : Int) := wrapU64 (n := 1) (by omega)
 have hl2 : IntKind.wrap IntKind.u64 ((len : Nat) : Int) = ((len : Nat) : Int) := wrapU64 (by omega)
 have hA : (cs.take (len * 1)).length = len := by rw [Nat.mul_one, List.length_take]; omega
 have hA1 : (cs.take (len * 1)).all isByte = true := by
  have := take_bytes hb 0 (len * 1)
  rwa [List.drop_zero] at this
 have hA2 : cs.take len = cs.take (len * 1) := by rw [Nat.mul_one]
 have hA0 : (List.take (len * 1) (List.drop 0 cs)).all isByte = true := take_bytes hb _ _
 have hA0i : (List.take (len * 1) cs).all (isInt .u8) = true := bytes_ints hA1
 have hA0o : (List.take (len * 1) cs).all one = true := ones_bytes hA1
 have hbi : (byteVals [c]).all (isInt .u8) = true := bytes_ints (byteVals_bytes _)
 have hbv : (byteVals [c]).all isByte = true := byteVals_bytes _
 by_cases hz : len = 0
 ·subst hz
  have h := imageE a m p 0 cap c cs
  rw [hl1, hl2] at h
  simp (disch := (simp [leB_length, bv1]; try omega)) only [head3, len1, take1, takeAll0, takeAll, Int.toNat_natCast] at h
  refine ⟨_, _, 62, Runs.path yx2 h ?_, by kernel_rfl, rfl, ?_, .inl rfl, rfl, rfl⟩
  ·simp only [true_and, and_true, Bool.and_true, Bool.not_false, Bool.and_eq_true, List.all_append, leB_bytes, hbv, one3, sum_nonneg, ones_bytes, oneInt, List.length_append, List.length_cons, List.length_nil, leB_length, bv1, decide_eq_true_eq, Bool.not_eq_true', decide_eq_false_iff_not]
   omega
  ·refine Eq.trans (b := some _) rfl ?_
   unfold imgRow imgPre
   simp only [List.take_zero, List.append_nil, List.append_assoc, List.length_nil]
 ·have h := imageV a m p len cap c cs
  rw [hl1, hl2] at h
  rw [hA2]
  simp (disch := (simp [leB_length, bv1, hA]; try omega)) only [head3, len1, take1, takeAll0, takeAll, Int.toNat_natCast] at h
  refine ⟨_, _, 63, Runs.path yx2 h ?_, by kernel_rfl, rfl, ?_, .inr rfl, rfl, rfl⟩
  ·simp only [true_and, and_true, Bool.and_true, Bool.not_false, Bool.and_eq_true, List.all_append, leB_bytes, hbv, one3, one3i, one3o, hbi, leB_ints, hA1, hA0i, hA0o, hA, List.drop_zero, sum_nonneg, ones_bytes, oneInt, List.length_append, List.length_cons, List.length_nil, leB_length, bv1, decide_eq_true_eq, Bool.not_eq_true', decide_eq_false_iff_not]
   omega
  ·refine Eq.trans (b := some _) rfl ?_
   unfold imgRow imgPre
   simp only [List.take_zero, List.append_nil, List.append_assoc, List.length_nil, hA, List.drop_zero]
def keyByte (s : ByteArray) : Option UInt8 := match s.data.toList with
 | [c] => some c
 | _ => none
theorem keyByte_is {s : ByteArray} {c : UInt8} (h : keyByte s = some c) : s = ⟨#[c]⟩ := by
 unfold keyByte at h
 split at h
 ·rename_i d hd
  cases h
  apply ByteArray.ext
  apply Array.ext'
  simpa using hd
 ·cases h
def imageFn (args : List Value) (S : St) : Y (Value × St) :=
 match args with
 | [.int .i64 a, .int .u64 m, .int .u64 p, .bool false, .string s, .slice (some ⟨b, 0, none⟩) len cap] => match keyByte s, S.heap.get b with
  | some c, some (.row cs 1 false) => .req (decide (0 ≤ a)) (.req (decide (0 ≤ m)) (.req (decide (0 ≤ p)) (.req (decide (len < 4294967296)) (.req (decide (len ≤ cs.length)) (.req (cs.all isByte)
   (.pure (.slice (some ⟨S.next + 62, 0, none⟩) (26 + len + 8) (26 + len + 8), { S with heap := S.heap.set (S.next + 62) (some (.row (imgRow a.toNat m.toNat p.toNat c (cs.take len)) 1 false)), next := S.next + 63 })))))))
  | _, _ => none
 | _ => none
theorem imageFn_sound (args : List Value) (S : St) (v : Value) (S' : St) (hx : imageFn args S = some (true, (v, S'))) (α : Place) (w : World) (args' : Array Value) (h : Rel α S w) (ha : LRel α args args'.toList) :
 Calls Tryz.prog 61 args' w fun e w' => ∃ β v', e = .returned v' ∧ Next α S w β S' w' ∧ VRel β v v' := by
 unfold imageFn at hx
 split at hx
 ·rename_i a m p s b len cap
  split at hx
  ·rename_i c cs hc hb
   simp only [Y.req_is, Y.pure_is, decide_eq_true_eq, Prod.mk.injEq] at hx
   obtain ⟨h1, h2, h3, h4, h5, h6, rfl, rfl⟩ := hx
   obtain ⟨a, rfl⟩ : ∃ n : Nat, a = (n : Int) := ⟨a.toNat, by omega⟩
   obtain ⟨m, rfl⟩ : ∃ n : Nat, m = (n : Int) := ⟨m.toNat, by omega⟩
   obtain ⟨p, rfl⟩ : ∃ n : Nat, p = (n : Int) := ⟨p.toNat, by omega⟩
   obtain rfl := keyByte_is hc
   simp only [Int.toNat_natCast] at *
   obtain ⟨a', T, k, hrun, hres, g1, g2, g3, g4, g5⟩ := image_runs (a := a) (m := m) (p := p) (cap := cap) (c := c) (by omega) h5 h6
   obtain ⟨d, hd, hdk⟩ : ∃ d, d + k = 63 ∧ k ≤ 63 := ⟨63 - k, by omega, by omega⟩
   have key := one_newG (P := Tryz.prog) (f := 61) (args' := args') (d := d) (k := k) (K := k) (α := α) (w := w) (v := .slice (some ⟨k, 0, none⟩) (26 + len + 8) (26 + len + 8)) (v2 := .slice (some ⟨S.next + 62, 0, none⟩) (26 + len + 8) (26 + len + 8))
    (e2 := .row (imgRow a m p c (cs.take len)) 1 false) (by omega) (Nat.le_refl _) h hb (fun π => .plain (ints_plain (bytes_ints h6)))
    (fun π => .plain (ints_plain (bytes_ints (imgRow_bytes a m p c (by have := take_bytes h6 0 len; rwa [List.drop_zero] at this))))) rfl
    (by
     have := RenV.slice (π := pi1g d b S) k 0 (26 + len + 8) (26 + len + 8)
     rw [show pi1g d b S k = S.next + 62 by unfold pi1g; rw [if_neg (by omega)]; omega] at this
     exact this)
    (fun hr => by
     have hl : LRel (fun i => α (pi1g d b S i)) [.int .i64 (a : Int), .int .u64 (m : Int), .int .u64 (p : Int), .bool false, .string ⟨#[c]⟩, .slice (some ⟨0, 0, none⟩) len cap] args'.toList :=
      (RenL.lrel (π := pi1g d b S) (.cons (.int _ _) (.cons (.int _ _) (.cons (.int _ _) (.cons (.bool _) (.cons (.string _) (.cons (.slice 0 0 len cap) .nil)))))) α _).2 (by simpa [pi1g] using ha)
     refine (Runs.calls mixed okN_ok call2 Tryz.func61 body44 (okN_good 61 _ _ rfl Tryz.func61 body44) hrun (.inr rfl) hres hr hl).mono ?_
     rintro x w' ⟨β, v', rfl, hn, hv⟩
     refine ⟨β, v', rfl, hn.same (fun i e hi => ?_) (by simpa using g4.symm) (by simpa using g5.symm), hv⟩
     rw [PT.get_set] at hi
     split at hi
     ·rename_i hik; cases hi; subst hik; exact g2
     ·obtain ⟨rfl, rfl⟩ := get1 hi; exact g1)
   rw [show S.next + d + (k - 1) = S.next + 62 by omega, show S.next + d + k = S.next + 63 by omega] at key
   exact key
  ·cases hx
 ·cases hx
def plainRow (cs : List Value) (o n : Nat) : List Value := (List.range n).map fun i => .int .u8 (intOf (cs.getD (o + i % 3) undefX))
theorem plainRow_length (cs : List Value) (o n : Nat) : (plainRow cs o n).length = n := by simp [plainRow]
theorem plainRow_bytes {cs : List Value} {o n : Nat} (hb : cs.all isByte = true) (h : ∀ i, i < n → o + i % 3 < cs.length) : (plainRow cs o n).all isByte = true := by
 rw [List.all_eq_true]
 intro v hv
 obtain ⟨i, hi, rfl⟩ := List.mem_map.1 hv
 rw [List.mem_range] at hi
 have := byte_at hb (h i hi)
 obtain ⟨m, hm, e⟩ := isByte_nat this
 rw [e] at this ⊢
 exact this
theorem zerosL_rep : ∀ (n : Nat), zerosL [.int .u8 0] n = List.replicate n (.int .u8 0)
 | 0 => rfl
 | n + 1 => by
  show [Value.int .u8 0] ++ zerosL [.int .u8 0] n = _
  rw [zerosL_rep n, List.replicate_succ]; rfl
theorem rep_bytes (n : Nat) : (List.replicate n (Value.int .u8 0)).all isByte = true := by
 rw [List.all_eq_true]
 intro v hv
 rw [(List.mem_replicate.1 hv).2]; rfl
def orc3 : Orc := fun f => if f = 52 then some getF else if f = 55 then some sumF else if f = 72 then some putF else if f = 37 then some readFn else if f = 36 then some markedFn else if f = 61 then some imageFn else none
noncomputable def yc3 : YCall := ygo Tryz.prog okN orc3 kp 100
noncomputable def pre8 : List Code := [sub (codeOf Tryz.prog 25) [0], sub (codeOf Tryz.prog 25) [1, 0], sub (codeOf Tryz.prog 25) [1, 1, 0], sub (codeOf Tryz.prog 25) [1, 1, 1, 0], sub (codeOf Tryz.prog 25) [1, 1, 1, 1, 0], sub (codeOf Tryz.prog 25) [1, 1, 1, 1, 1, 0],
 sub (codeOf Tryz.prog 25) [1, 1, 1, 1, 1, 1, 0], sub (codeOf Tryz.prog 25) [1, 1, 1, 1, 1, 1, 1, 0], sub (codeOf Tryz.prog 25) [1, 1, 1, 1, 1, 1, 1, 1, 0], sub (codeOf Tryz.prog 25) [1, 1, 1, 1, 1, 1, 1, 1, 1, 0]]
noncomputable abbrev head8 : Code := sub (codeOf Tryz.prog 25) [1,1,1,1,1,1,1,1,1,1,0,0]
noncomputable abbrev loop8 : Code := sub (codeOf Tryz.prog 25) [1,1,1,1,1,1,1,1,1,1,0,1,0,0]
noncomputable abbrev post8 : Code := sub (codeOf Tryz.prog 25) [1,1,1,1,1,1,1,1,1,1,1]
def putL (t : PT Ent) : List (Nat × Ent) → PT Ent
 | [] => t
 | p :: r => putL (t.set p.1 (some p.2)) r
theorem get_putL : ∀ (l : List (Nat × Ent)) (t : PT Ent) (i : Nat) (e : Ent), (putL t l).get i = some e → t.get i = some e ∨ (i, e) ∈ l
 | [], t, i, e, h => .inl h
 | p :: r, t, i, e, h => by
  rcases get_putL r _ i e h with h1 | h1
  ·rw [PT.get_set] at h1
   split at h1
   ·rename_i hi; subst hi; cases h1; exact .inr (by simp)
   ·exact .inl h1
  ·exact .inr (by simp [h1])
def ofL (l : List (Nat × Ent)) (n : Nat) : St := { heap := putL .leaf l, next := n, glob := 0 }
theorem Kept.ofL {l : List (Nat × Ent)} {m : Nat} {S : St} (h : ∀ p ∈ l, S.heap.get p.1 = some p.2 ∧ p.1 < m ∧ ∀ π, Keeps m π → RenE π p.2 p.2) (hm : m ≤ S.next) (hg : S.glob = 0) : Kept m (ofL l m) S :=
 ⟨fun i e hi => by
  rcases get_putL l .leaf i e hi with h1 | h1
  ·simp [PT.get] at h1
  ·exact h (i, e) h1, rfl, hm, hg.symm, Nat.zero_le _⟩
def diskRow (n : Nat) : Ent := .row [.slice (some ⟨0, 0, none⟩) n n, .slice (some ⟨1, 0, none⟩) n n, .slice none 0 0, .int .i64 (-1), .bool false] 0 false
def cacheRow (sz : Int) (recs : Value) (nx hd : Int) : Ent := .row [.pointer (some ⟨2, 0, none⟩), .int .i64 sz, .int .u64 0, .int .i64 0, recs, .map (some 3), .int .u64 nx, .int .i64 hd, .int .i64 0, .bool false] 0 false
def recCells (c : UInt8) (v : Nat) : List Value := [.int .i64 0, .int .i64 ((34 + v : Nat) : Int), .int .u64 1, .string ⟨#[c]⟩, .int .i64 (v : Int), .bool false]
def oS (n : Nat) (cs ds : List Value) (sz : Int) : St := ofL [(0, .row cs 1 false), (2, diskRow n), (3, .map [] 0 false), (4, cacheRow sz (.slice none 0 0) 1 0), (6, .row ds 1 false), (180, .row [.int .u64 0] 0 false)] 181
def oS1 (n v : Nat) (c : UInt8) (cs ds : List Value) (sz : Int) : St := ofL [(0, .row cs 1 false), (2, diskRow n), (3, .map [] 0 false), (4, cacheRow sz (.slice (some ⟨244, 0, none⟩) 1 1) 2 ((34 + v : Nat) : Int)), (6, .row ds 1 false), (180, .row [.int .u64 1] 0 false), (244, .row (recCells c v) 6 false)] 245
def oHead (l cp : Nat) (k : Int) (j : Option Value) : XAct := [none, none, none, none, none, some (.pointer (some ⟨4, 0, none⟩)), some (.slice (some ⟨6, 0, none⟩) l cp), none, none, none, some (.pointer (some ⟨180, 0, none⟩)), some (.int .i64 k)] ++ List.replicate 67 none ++ [j] ++ List.replicate 101 none
def oHead0 (l cp : Nat) : XAct := [none, none, none, none, none, some (.pointer (some ⟨4, 0, none⟩)), some (.slice (some ⟨6, 0, none⟩) l cp), none, none, none, some (.pointer (some ⟨180, 0, none⟩))] ++ List.replicate 170 none
def oDisk (n : Nat) (cs : List Value) : St := ofL [(0, .row cs 1 false), (2, diskRow n)] 3
def oEnd : XAct := [none, none, some (.pointer (some ⟨4, 0, none⟩)), some (.int .i64 0)] ++ List.replicate 177 none
end Go.Xe
