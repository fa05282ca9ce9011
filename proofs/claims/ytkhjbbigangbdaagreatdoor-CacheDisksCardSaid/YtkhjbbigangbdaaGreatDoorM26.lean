/- A part of the proof. -/
import Derived.Test.YtkhjbbigangbdaaGreatDoorM18
set_option linter.all false
namespace Go.Xe
open Go Go.Proofs
section
variable {P : Pend} {z A M : Nat} {S : St} {las : List Value} {fu : Int} (I : ReadIn P z S las fu A M)
include I
theorem refZ_ren (t : Nat) : SlRen (piF t S.next) (slZ 55 (refZ 200001 z P.length A M)) (slZ 55 (refZ (S.next + 1) z P.length A M)) := by
 refine SlRen.slZ ⟨rfl, .int _ _, rfl, .int _ _, rfl, ren_row (j := 1), rfl, low_ren (piF_keeps t S.next) rfl, rfl, .int _ _, rfl, .int _ _, rfl, .bool _, trivial⟩
theorem refZ_low : ∀ j v, slot (slZ 55 (refZ (S.next + 1) z P.length A M)) j = some v → ∀ π, Keeps (S.next + 2) π → RenV π v v := by
 refine slZ_low ?_
 have := I.p.next
 have h1 : decide (S.next + 1 < S.next + 2) = true := decide_eq_true (by omega)
 have h2 : decide (100010 < S.next + 2) = true := decide_eq_true (by omega)
 simp only [refZ, List.all_cons, List.all_nil, low, low1, plain1, h1, h2, Bool.and_self]
theorem ref_rounds : ∀ r i, i + r = P.length → SLB Tryz.prog S (r + 1) refL (slZ 55 (refH (S.next + 1) z P.length A M i)) (S.ups (allAt S las P i) (S.next + 2)) (.exit 1) (slZ 55 (refZ (S.next + 1) z P.length A M)) (S.ups (allAt S las P P.length) (S.next + 2))
 | 0, i, hr => by
  obtain rfl : i = P.length := by omega
  have h := refX z P.length P.length A M
  have f1 : decide (((P.length : Nat) : Int) < (P.length : Int)) = false := decide_eq_false (by omega)
  simp only [f1] at h
  exact SLB.exit (SB.near2 (cl := []) (s1 := []) (m := 2) (m' := 2) callZ refGoodL (Runs.path yxZ h rfl) rfl I.p.low I.p.next (Nat.le_of_ble_eq_true rfl) (Nat.le_of_ble_eq_true rfl) (fun x hx => by cases hx) (fun x hx => by cases hx) (fun j => rfl) (allAt_low I _) (refH_ren I _ _) (refZ_ren I _) (refZ_low I))
 | r + 1, i, hr => by
  have hi : i < P.length := by omega
  exact SLB.step (ref_round I (List.getElem?_eq_getElem hi)) (ref_rounds r (i + 1) (by omega))
def refR' (x A M : Nat) : List (Nat × Value) := [(6, .slice (some ⟨x, A, none⟩) M M), (7, .int .i64 0)]
theorem ref_SR : SR Tryz.prog (codeOf Tryz.prog 14) (startX Tryz.f14 [.pointer (some ⟨100008, 0, none⟩), .int .i64 (A : Int), .int .i64 (M : Int)]) S .ret (slZ 55 (refR' (S.next + 1) A M)) (S.ups (allAt S las P P.length) (S.next + 2)) := by
 rw [refCode]
 have hn := I.p.next
 have hz := I.p.size
 have hfit := I.fit
 have hz0 := I.z0
 have nil : ∀ k (y : Ent), (k, y) ∈ ([] : List (Nat × Ent)) → k < S.next ∧ LowR S.next y := fun k y h => by cases h
 have row : ∀ {C' : St}, C'.heap.get 100008 = some (rRow z (wrV 100010 P.length) true fu) →
  ∀ p, p ∈ [(100008, rRow z (wrV 100010 P.length) true fu)] → p.1 < 199997 ∧ (putU S.heap []).get p.1 = some p.2 ∧ LowR 199997 p.2 ∧ C'.heap.get p.1 = some p.2 := by
  intro C' h' p hp
  obtain rfl := List.mem_singleton.1 hp
  exact ⟨Nat.le_of_ble_eq_true rfl, I.r8, fun π hk => lowE_ren hk (by kernel_rfl), h'⟩
 have hA : SB Tryz.prog S _ _ S _ _ S := SB.quiet (lb := []) callZ refGoodA (Runs.path yxZ (refA z P.length A M fu) rfl) I.p.low hn (Nat.le_of_ble_eq_true rfl) (row (by kernel_rfl)) nil (by kernel_rfl) (by kernel_rfl) rfl (fun i v hi => hi)
 have hB : SB Tryz.prog S (sub (codeOf Tryz.prog 14) [1,0]) (slZ 55 [(0, Value.pointer (some { block := 100008, off := 0 : Addr })), (1, Value.int IntKind.i64 (A : Int)), (2, Value.int IntKind.i64 (M : Int))]) S .normal
  (slZ 55 [(0, Value.pointer (some { block := 100008, off := 0 : Addr })), (1, Value.int IntKind.i64 (A : Int)), (2, Value.int IntKind.i64 (M : Int)), (17, Value.bool false)]) S := by
  have h := refB z P.length A M fu
  have e1 : IntKind.wrap IntKind.i64 ((z : Int) - (A : Int)) = ((z - A : Nat) : Int) := by rw [wrap64 (by omega) (by omega)]; omega
  have g1 : decide ((M : Int) ≤ ((z - A : Nat) : Int)) = true := decide_eq_true (by omega)
  have g2 : decide ((A : Int) ≤ (z : Int)) = true := decide_eq_true (by omega)
  have g3 : decide ((0 : Int) ≤ (A : Int)) = true := decide_eq_true (by omega)
  have g4 : decide ((0 : Int) ≤ (M : Int)) = true := decide_eq_true (by omega)
  simp only [e1, g1, g2, g3, g4] at h
  exact SB.quiet (lb := []) callZ refGoodB (Runs.path yxZ h (by rfl)) I.p.low hn (Nat.le_of_ble_eq_true rfl) (row (by kernel_rfl)) nil (by kernel_rfl) (by kernel_rfl) rfl (fun i v hi => hi)
 have hall : List.take 0 (List.drop 0 (zerosL [Value.int IntKind.u8 0] 0)) ++ List.take (z * 1) (List.drop 0 las) = las := by
  have h1 : List.take (z * 1) (List.drop 0 las) = las := by rw [Nat.mul_one, List.drop_zero]; exact List.take_of_length_le (by rw [I.len]; exact Nat.le_refl _)
  rw [h1]; rfl
 have hS : S.ups [] (S.next + 0) = S := rfl
 have hC : SB Tryz.prog S (sub (codeOf Tryz.prog 14) [1,1,0]) (slZ 55 [(0, Value.pointer (some { block := 100008, off := 0 : Addr })), (1, Value.int IntKind.i64 (A : Int)), (2, Value.int IntKind.i64 (M : Int))]) (S.ups [] (S.next + 0)) .normal
  (slZ 55 [(0, Value.pointer (some { block := 100008, off := 0 : Addr })), (1, Value.int IntKind.i64 (A : Int)), (2, Value.int IntKind.i64 (M : Int)), (8, .slice (some ⟨S.next + 1, 0, none⟩) z z)]) (S.ups (allAt S las P 0) (S.next + 2)) := by
  have h := refC z P.length A M fu las
  rw [hall] at h
  have g1 : decide (z = 0) = false := decide_eq_false (by omega)
  have g2 : decide (0 + z * 1 ≤ las.length) = true := decide_eq_true (by rw [I.len]; omega)
  have g3 : decide (0 + z ≤ 0) = false := decide_eq_false (by omega)
  have g4 : decide ((0 + z) * 1 ≤ 140737488355328) = true := decide_eq_true (by omega)
  have g5 : decide (0 + z ≤ 9223372036854775807) = true := decide_eq_true (by omega)
  have g6 : las.all one = true := ones_bytes I.bytes
  simp only [g1, g2, g3, g4, g5, g6] at h
  rw [Nat.zero_add] at h
  have e1 : piF 199998 S.next 200001 = S.next + 1 := piF_new _ _ 1
  refine SB.near2 (lb := []) (s1 := [(200001, .row las 1 false)]) (m := 0) (m' := 2) callZ refGoodC (Runs.path yxZ h rfl) (by decide) I.p.low hn (Nat.le_of_ble_eq_true rfl) (Nat.zero_le _) (fun x hx => ?_) (fun x hx => ?_) (fun j => ?_) (allAt_low I 0) (SlRen.of_low (piF_keeps _ _) (by kernel_rfl)) (SlRen.slZ ⟨rfl, low_ren (piF_keeps 199998 S.next) rfl, rfl, .int _ _, rfl, .int _ _, rfl, ren_row (j := 1), trivial⟩) (slZ_low ?_)
  ·simp only [List.mem_cons, List.not_mem_nil, or_false] at hx
   rcases hx with rfl | rfl
   ·exact ⟨.inl (Nat.le_of_ble_eq_true rfl), by rw [piF_keeps _ _ _ (Nat.le_of_ble_eq_true rfl)]; exact I.r8, fun π hk => lowE_ren hk (by kernel_rfl), .inr (by kernel_rfl)⟩
   ·exact ⟨.inl (Nat.le_of_ble_eq_true rfl), by rw [piF_keeps _ _ _ (Nat.le_of_ble_eq_true rfl)]; exact I.r9, fun π _ => bytes_ren I.bytes π, .inr (by kernel_rfl)⟩
  ·obtain rfl := List.mem_singleton.1 hx
   exact ⟨by kernel_rfl, fun π _ => bytes_ren I.bytes π, rfl⟩
  ·simp only [List.map_cons, List.map_nil, e1, allAt, List.take_zero, applyP, List.append_nil]
  ·have h1 : decide (S.next + 1 < S.next + 2) = true := decide_eq_true (by omega)
   have h2 : decide (100008 < S.next + 2) = true := decide_eq_true (by omega)
   simp only [List.all_cons, List.all_nil, low, low1, plain1, h1, h2, Bool.and_self]
 rw [hS] at hC
 have hD : SB Tryz.prog S (sub (codeOf Tryz.prog 14) [1,1,1,0,0]) (slZ 55 [(0, Value.pointer (some { block := 100008, off := 0 : Addr })), (1, Value.int IntKind.i64 (A : Int)), (2, Value.int IntKind.i64 (M : Int)), (8, .slice (some ⟨S.next + 1, 0, none⟩) z z)]) (S.ups (allAt S las P 0) (S.next + 2)) .normal (slZ 55 (refH (S.next + 1) z P.length A M 0)) (S.ups (allAt S las P 0) (S.next + 2)) := by
  have h := refD z P.length A M fu
  refine SB.near2 (s1 := []) (m := 2) (m' := 2) callZ refGoodD (Runs.path yxZ h rfl) (by decide) I.p.low hn (Nat.le_of_ble_eq_true rfl) (show 2 ≤ 200002 - 200000 by decide) (fun x hx => ?_) (fun x hx => by cases hx) (fun j => rfl) (allAt_low I 0) (SlRen.slZ (l' := [(0, Value.pointer (some { block := 100008, off := 0 : Addr })), (1, Value.int IntKind.i64 (A : Int)), (2, Value.int IntKind.i64 (M : Int)), (8, .slice (some ⟨S.next + 1, 0, none⟩) z z)]) ⟨rfl, low_ren (piF_keeps 199998 S.next) rfl, rfl, .int _ _, rfl, .int _ _, rfl, ren_row (j := 1), trivial⟩) (refH_ren I _ 0) (refH_low I 0)
  obtain rfl := List.mem_singleton.1 hx
  exact ⟨.inl (Nat.le_of_ble_eq_true rfl), by
   rw [piF_keeps _ _ _ (Nat.le_of_ble_eq_true rfl)]
   simp only [allAt, putU]
   rw [PT.get_set_ne _ _ (by omega)]
   exact I.r8, fun π hk => lowE_ren hk (by kernel_rfl), .inr (by kernel_rfl)⟩
 have hE : SB Tryz.prog S (sub (codeOf Tryz.prog 14) [1,1,1,1]) (slZ 55 (refZ (S.next + 1) z P.length A M)) (S.ups (allAt S las P P.length) (S.next + 2)) .ret (slZ 55 (refR' (S.next + 1) A M)) (S.ups (allAt S las P P.length) (S.next + 2)) := by
  have h := refPost z P.length P.length A M (applyP las (P.take P.length))
  have f1 : decide (((P.length : Nat) : Int) < (P.length : Int)) = false := decide_eq_false (by omega)
  have e1 : IntKind.wrap IntKind.i64 ((A : Int) + (M : Int)) = ((A + M : Nat) : Int) := wrapAdd (by omega)
  have g1 : decide ((0 : Int) ≤ ((A + M : Nat) : Int)) = true := decide_eq_true (by omega)
  have g2 : decide (((A + M : Nat) : Int) ≤ (z : Int)) = true := decide_eq_true (by omega)
  have g3 : decide (((A + M : Nat) : Int) ≤ ((A + M : Nat) : Int)) = true := decide_eq_true (by omega)
  have g4 : decide ((0 : Int) ≤ (A : Int)) = true := decide_eq_true (by omega)
  have g5 : decide ((A : Int) ≤ ((A + M : Nat) : Int)) = true := decide_eq_true (by omega)
  simp only [f1, e1, Int.toNat_natCast, g1, g2, g3, g4, g5, Nat.add_sub_cancel_left, Nat.mul_one, Nat.zero_add] at h
  have e2 : piF 199998 S.next 200001 = S.next + 1 := piF_new _ _ 1
  refine SB.near2 (s1 := []) (m := 2) (m' := 2) callZ refGoodE (Runs.path yxZ h rfl) (by decide) I.p.low hn (Nat.le_of_ble_eq_true rfl) (show 2 ≤ 200002 - 200000 by decide) (fun x hx => ?_) (fun x hx => by cases hx) (fun j => rfl) (allAt_low I _) (refZ_ren I _) (SlRen.slZ ⟨rfl, ?_, rfl, .int _ _, trivial⟩) (slZ_low ?_)
  ·obtain rfl := List.mem_singleton.1 hx
   exact ⟨.inr ⟨Nat.le_of_ble_eq_true rfl, Nat.le_of_ble_eq_true rfl⟩, by simp only; rw [e2]; simp only [allAt, putU]; rw [PT.get_set_same], fun π _ => bytes_ren (applyP_bytes _ _ (I.p.fits.take _) I.bytes) π, .inr (by kernel_rfl)⟩
  ·have := RenV.slice (π := piF 199998 S.next) 200001 A M M
   rw [e2] at this; exact this
  ·have h1 : decide (S.next + 1 < S.next + 2) = true := decide_eq_true (by omega)
   simp only [refR', List.all_cons, List.all_nil, low, low1, plain1, h1, Bool.and_self]
 have hBn : SB Tryz.prog S (sub (codeOf Tryz.prog 14) [1,0]) (slZ 55 [(0, Value.pointer (some { block := 100008, off := 0 : Addr })), (1, Value.int IntKind.i64 (A : Int)), (2, Value.int IntKind.i64 (M : Int))]) S .normal
  (slZ 55 [(0, Value.pointer (some { block := 100008, off := 0 : Addr })), (1, Value.int IntKind.i64 (A : Int)), (2, Value.int IntKind.i64 (M : Int))]) S :=
  hB.moves (Moves.less ⟨fun i e h => h, Nat.le_refl _, rfl⟩ rfl (fun i v hi => by
   have h1 := slot_slZ hi
   simp only [List.mem_cons, List.not_mem_nil, or_false, Prod.mk.injEq] at h1
   rcases h1 with ⟨rfl, rfl⟩ | ⟨rfl, rfl⟩ | ⟨rfl, rfl⟩ <;> rfl))
 exact SR.ofB (SB.seq hA (SB.seq hBn (SB.seq hC (SB.seq (SB.seq hD (SB.block_exit (SB.loop (ref_rounds I P.length 0 (by omega))))) hE))))
end
noncomputable def refReadF (P : Pend) (z : Nat) (args : List Value) (S : St) : Y (Value × St) :=
 match args, S.heap.get 100009 with
 | [.pointer (some ⟨100008, 0, none⟩), .int .i64 at0, .int .i64 n], some (.row las 1 false) => match S.heap.get 100008 with
  | some (.row [_, _, _, .int .i64 fu] _ _) => .req (@decide (0 ≤ at0 ∧ 0 ≤ n ∧ ReadIn P z S las fu at0.toNat n.toNat) (Classical.propDecidable _)) (.pure (.tuple #[.slice (some ⟨S.next + 1, at0.toNat, none⟩) n.toNat n.toNat, .int .i64 0], S.ups [(S.next + 1, .row (applyP las P) 1 false)] (S.next + 2)))
  | _ => none
 | _, _ => none
theorem refReadF_sound (P : Pend) (z : Nat) (args : List Value) (S : St) (v : Value) (S' : St) (hx : refReadF P z args S = some (true, (v, S'))) (α : Place) (w : World) (args' : Array Value) (h : Rel α S w) (ha : LRel α args args'.toList) :
 Calls Tryz.prog 14 args' w fun e w' => ∃ β v', e = .returned v' ∧ Next α S w β S' w' ∧ VRel β v v' := by
 unfold refReadF at hx
 split at hx
 ·rename_i at0 n las _
  split at hx
  ·simp only [Y.req_is, Y.pure_is, decide_eq_true_eq, Prod.mk.injEq] at hx
   obtain ⟨⟨h1, h2, I⟩, rfl, rfl⟩ := hx
   obtain ⟨A, rfl⟩ := Int.eq_ofNat_of_zero_le h1
   obtain ⟨M, rfl⟩ := Int.eq_ofNat_of_zero_le h2
   have hs := ref_SR I
   simp only [allAt, List.take_length] at hs
   exact SR.calls Tryz.func14 refBody hs (.inr rfl) (by kernel_rfl) h ha
  ·cases hx
 ·cases hx
end Go.Xe
