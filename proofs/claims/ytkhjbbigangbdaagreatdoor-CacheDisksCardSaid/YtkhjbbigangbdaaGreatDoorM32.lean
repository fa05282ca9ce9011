/- A part of the proof. -/
import Derived.Test.YtkhjbbigangbdaaGreatDoorM30
set_option linter.all false
namespace Go.Xe
open Go Go.Proofs
theorem isInt_of {l : List Value} (h : l.all isByte = true) : l.all (isInt .u8) = true := List.all_eq_true.2 fun x hx => isByte_int (List.all_eq_true.1 h x hx)
section
variable {n : Nat} {P : Pend} {z : Nat} {las : List Value} {fu kd at0 n0 : Int} {off : Bool} {B0 : St} {bv kv : Value} {A M : Nat}
variable (hB : LowSt B0) (hBn : B0.next = 100003) (hbv : ArgV bv) (hkv : ArgV kv)
include hB hBn hbv hkv
theorem st_rd0 (I : DInv n [] z las fu) (hfit : A + M ≤ z) (hM : 0 < M) (hk : Int.tmod kd (OfNat.ofNat 8) = 1) : TurnTo B0 (tArgs kd (A : Int) (M : Int) bv kv) (kSt B0 [] z las fu false) (kSt B0 [] z las fu false) := by
 have hz := I.size
 have hp := I.pos
 have hll := I.len
 have h := tRd0 (tOf []) z las las kd fu bv kv A M
 have e1 : IntKind.wrap .i64 ((A : Int) + (M : Int)) = ((A + M : Nat) : Int) := wrapAdd (by omega)
 have e2 : IntKind.wrap .i64 ((z : Int) - (A : Int)) = ((z - A : Nat) : Int) := by rw [wrap64 (by omega) (by omega)]; omega
 have e3 : List.take z las = las := List.take_of_length_le (by omega)
 simp only [e1, e2, Int.toNat_natCast, Nat.add_sub_cancel_left, Nat.zero_add, Nat.mul_one, List.take_zero, List.nil_append, List.drop_zero, e3, List.take_take, Nat.min_self, beqBytes_self] at h
 have b1 : (List.take M (List.drop A las)).all isByte = true := all_take_of (all_drop_of I.bytes A) M
 refine turn_quiet hB hBn I hbv hkv callZ (Runs.path yxZ h ?_) (rV_in (P := []) (off := false)) rfl (by kernel_rfl) (by kernel_rfl)
 simp only [hk, all5 hbv.one hkv.one, ones_bytes b1, isInt_of b1, ones_bytes I.bytes, tn, rp, Bool.and_eq_true, Bool.not_eq_true', Bool.not_not, Bool.not_true, Bool.not_false, decide_eq_true_eq, decide_eq_false_iff_not, true_and, and_true, List.length_take, List.length_drop]
 omega
theorem st_rd0z (I : DInv n [] z las fu) (hfit : A ≤ z) (hk : Int.tmod kd (OfNat.ofNat 8) = 1) : TurnTo B0 (tArgs kd (A : Int) 0 bv kv) (kSt B0 [] z las fu false) (kSt B0 [] z las fu false) := by
 have hz := I.size
 have hp := I.pos
 have hll := I.len
 have h := tRd0z (tOf []) z las las kd fu bv kv A
 have e1 : IntKind.wrap .i64 (A : Int) = (A : Int) := wrap64 (by omega) (by omega)
 have e2 : IntKind.wrap .i64 ((z : Int) - (A : Int)) = ((z - A : Nat) : Int) := by rw [wrap64 (by omega) (by omega)]; omega
 have e3 : List.take z las = las := List.take_of_length_le (by omega)
 simp only [Int.add_zero, e1, e2, Int.toNat_natCast, Nat.sub_self, Nat.zero_add, Nat.mul_one, List.take_zero, List.nil_append, List.drop_zero, e3] at h
 refine turn_quiet hB hBn I hbv hkv callZ (Runs.path yxZ h ?_) (rV_in (P := []) (off := false)) rfl (by kernel_rfl) (by kernel_rfl)
 simp only [hk, all5 hbv.one hkv.one, ones_bytes I.bytes, tn, rp, Bool.and_eq_true, Bool.not_eq_true', Bool.not_not, Bool.not_true, Bool.not_false, decide_eq_true_eq, decide_eq_false_iff_not, true_and, and_true, List.length_take, List.length_drop]
 omega
theorem st_rdP (I : DInv n P z las fu) (hne : P ≠ []) (hfit : A + M ≤ z) (hM : 0 < M) (hk : Int.tmod kd (OfNat.ofNat 8) = 1) : TurnTo B0 (tArgs kd (A : Int) (M : Int) bv kv) (kSt B0 P z las fu false) (kSt B0 P z las fu false) := by
 have hz := I.size
 have hp := I.pos
 have hll := I.len
 have hl := now_len I
 have hby := now_bytes I
 have h := tRdP (tOf P) P z (applyP las P) las kd fu bv kv A M
 have e1 : IntKind.wrap .i64 ((A : Int) + (M : Int)) = ((A + M : Nat) : Int) := wrapAdd (by omega)
 have e2 : IntKind.wrap .i64 ((z : Int) - (A : Int)) = ((z - A : Nat) : Int) := by rw [wrap64 (by omega) (by omega)]; omega
 simp only [e1, e2, Int.toNat_natCast, Nat.add_sub_cancel_left, Nat.zero_add, Nat.mul_one, List.take_zero, List.nil_append, List.drop_zero, List.take_take, Nat.min_self, beqBytes_self] at h
 have b1 : (List.take M (List.drop A (applyP las P))).all isByte = true := all_take_of (all_drop_of hby A) M
 refine turn_quiet hB hBn I hbv hkv (callD P z) (Runs.path (yxD P z) h ?_) (rP_in hne) rfl (by kernel_rfl) (by kernel_rfl)
 rw [holds_of (p := 0 ≤ (A : Int) ∧ 0 ≤ (M : Int) ∧ ReadIn P z _ las fu A M)]
 ·simp only [hk, all5 hbv.one hkv.one, ones_bytes b1, isInt_of b1, tn, rp, Bool.and_eq_true, Bool.not_eq_true', Bool.not_not, Bool.not_true, Bool.not_false, decide_eq_true_eq, decide_eq_false_iff_not, true_and, and_true, List.length_take, List.length_drop, hl]
  omega
 ·exact ⟨by omega, by omega, ⟨pcond_of I (by decide) (L := gP P z (applyP las P) las las (wrV 100007 P.length) (wrV 100010 P.length) fu fu false true ++ [(200000, some (.row [.int .u8 kd, .int .i64 (A : Int), .int .i64 (M : Int), bv, kv] 0 false)), (200001, none), (200002, some (.row (List.take M (List.drop A (applyP las P))) 1 false))]) (by kernel_rfl) rfl (by kernel_rfl) (Nat.le_of_ble_eq_true rfl) ((gP_low I (Nat.le_of_ble_eq_true rfl) hby I.bytes I.bytes rfl rfl).append (.cons (Nat.le_of_ble_eq_true rfl) (turnRow_low hbv.low1 hkv.low1) (.gone (.cons (Nat.le_of_ble_eq_true rfl) (fun π _ => bytes_ren b1 π) (.nil _))))), by kernel_rfl, by kernel_rfl, by kernel_rfl, hll, I.bytes⟩, hp, hfit⟩
theorem st_rdPz (I : DInv n P z las fu) (hne : P ≠ []) (hfit : A ≤ z) (hk : Int.tmod kd (OfNat.ofNat 8) = 1) : TurnTo B0 (tArgs kd (A : Int) 0 bv kv) (kSt B0 P z las fu false) (kSt B0 P z las fu false) := by
 have hz := I.size
 have hp := I.pos
 have hll := I.len
 have hl := now_len I
 have hby := now_bytes I
 have h := tRdPz (tOf P) P z (applyP las P) las kd fu bv kv A
 have e1 : IntKind.wrap .i64 (A : Int) = (A : Int) := wrap64 (by omega) (by omega)
 have e2 : IntKind.wrap .i64 ((z : Int) - (A : Int)) = ((z - A : Nat) : Int) := by rw [wrap64 (by omega) (by omega)]; omega
 simp only [Int.add_zero, e1, e2, Int.toNat_natCast, Nat.sub_self] at h
 refine turn_quiet hB hBn I hbv hkv (callD P z) (Runs.path (yxD P z) h ?_) (rP_in hne) rfl (by kernel_rfl) (by kernel_rfl)
 rw [holds_of (p := 0 ≤ (A : Int) ∧ (0 : Int) ≤ 0 ∧ ReadIn P z _ las fu A 0)]
 ·simp only [hk, all5 hbv.one hkv.one, tn, rp, Bool.and_eq_true, Bool.not_eq_true', Bool.not_not, Bool.not_true, Bool.not_false, decide_eq_true_eq, decide_eq_false_iff_not, true_and, and_true, List.length_take, List.length_drop, hl]
  omega
 ·exact ⟨by omega, by omega, ⟨pcond_of I (by decide) (L := gP P z (applyP las P) las las (wrV 100007 P.length) (wrV 100010 P.length) fu fu false true ++ [(200000, some (.row [.int .u8 kd, .int .i64 (A : Int), .int .i64 0, bv, kv] 0 false)), (200001, some (.row (zerosL [Value.int .u8 0] 0) 1 false))]) (by kernel_rfl) rfl (by kernel_rfl) (Nat.le_of_ble_eq_true rfl) ((gP_low I (Nat.le_of_ble_eq_true rfl) hby I.bytes I.bytes rfl rfl).append (.cons (Nat.le_of_ble_eq_true rfl) (turnRow_low hbv.low1 hkv.low1) (.cons (Nat.le_of_ble_eq_true rfl) (fun π _ => .plain rfl) (.nil _)))), by kernel_rfl, by kernel_rfl, by kernel_rfl, hll, I.bytes⟩, hp, hfit⟩
end
end Go.Xe
