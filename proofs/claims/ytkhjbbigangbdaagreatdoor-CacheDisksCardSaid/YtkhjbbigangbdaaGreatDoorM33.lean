/- A part of the proof. -/
import Derived.Test.YtkhjbbigangbdaaGreatDoorM27
import Derived.Test.YtkhjbbigangbdaaGreatDoorM30
set_option linter.all false
namespace Go.Xe
open Go Go.Proofs
theorem tCo0 (T : PT Ent) (z : Nat) (now las : List Value) (kd at0 n0 fu : Int) (off : Bool) (bv kv : Value) : tPath ycZ (tArg kd at0 n0 bv kv) (cstX T (rV z now las fu off (!off) (.slice none 0 0) (.slice none 0 0)) 200000) (bits 23 4210560) = (let x0 := [Value.slice (ad 100005) z z, Value.slice (ad 100006) z z, Value.slice none 0 0, Value.int .i64 fu, Value.bool off]; let x1 := List.drop 0 (zerosL [Value.int .u8 0] 0); let x2 := [Value.int .u8 kd, Value.int .i64 at0, Value.int .i64 n0, bv, kv]; let x3 := List.getD x0 1 undefX; let x4 := List.take 0 x1 ++ List.take (z * 1) (List.drop 0 now); let x5 := List.take 0 x1 ++ List.take (z * 1) (List.drop 0 las); let x6 := decide ((0 + z) * 1 ≤ 140737488355328); let x7 := decide (0 + z ≤ 9223372036854775807); let x8 := List.take 5 (List.drop 0 x0); let x9 := some (Ent.row las 1 false); some (tn 6 (List.all x2 one) && (tn 1 (!decide (Int.tmod kd (OfNat.ofNat 8) = 0) && (!decide (Int.tmod kd (OfNat.ofNat 8) = 1) && (!decide (Int.tmod kd (OfNat.ofNat 8) = 2) && (!decide (Int.tmod kd (OfNat.ofNat 8) = 3) && (!decide (Int.tmod kd (OfNat.ofNat 8) = 4) && (!decide (Int.tmod kd (OfNat.ofNat 8) = 5) && tn 1 (!decide (Int.tmod kd (OfNat.ofNat 8) = 6)))))))) && tn 4 (tn 1 (!!decide (0 < (z : Int))) && (tn 4 (decide (0 + List.length x8 ≤ 5) && tn 1 (List.all x8 one)) && tn 2 (tn 7 (!decide (z = 0) && tn 1 (decide (0 + z * 1 ≤ List.length now)) && (!decide (0 + z ≤ 0) && (x6 && (x7 && tn 2 (List.all x4 one))))) && tn 8 (!decide (z = 0) && tn 1 (decide (0 + z * 1 ≤ List.length las)) && (!decide (0 + z ≤ 0) && (x6 && (x7 && tn 2 (List.all x5 one))))) && tn 1 (tn 1 (same (List.getD x0 0 undefX) (List.getD x0 0 undefX)) && tn 1 (same x3 x3 && tn 1 (same x3 x3))))))), ((XE.ret, (nn 6 ++ [some (Value.bool true)] ++ nn 133), ⟨(nd (nd (nd (ch 14 8619 (l0)) (ch 13 4308 (lr [Value.pointer (ad 200001)] 0 false))) (nd (nd (ch 13 4308 (lr [Value.slice (ad 200024) (0 + z) (0 + z), Value.slice (ad 200026) (0 + z) (0 + z), Value.slice none 0 0, Value.int .i64 fu, Value.bool off] 0 false)) (nd (ch 11 1077 (ln x9)) (ch 12 2154 (l0)))) (nd (ch 12 2154 (lr now 1 false)) (ch 5 31 (l0))))) (nd (nd (nd (ch 13 4308 (lr x2 0 false)) (nd (ch 11 1077 (lr [Value.slice (ad 100009) z z, Value.slice none 0 0, Value.bool !off, Value.int .i64 fu] 0 false)) (ch 12 2154 (lr x4 1 false)))) (ch 13 4308 (lr x0 0 false))) (nd (ch 14 8619 (lr x5 1 false)) (nd (ch 12 2154 (ln x9)) (ch 6 63 T))))), 200027, 0⟩), []))) := by kernel_rfl
theorem tCoP (T : PT Ent) (P : Pend) (z : Nat) (now las : List Value) (kd at0 n0 fu : Int) (off : Bool) (bv kv : Value) : tPath ycZ (tArg kd at0 n0 bv kv) (cstX T (rP P z now las fu off (!off)) 200000) (bits 25 16256) = (let x1 := List.take 0 (List.drop 0 (zerosL [Value.int .i64 0, Value.slice none 0 0] 0)) ++ List.take (List.length P * 2) (List.drop 0 (arrC 0 0 P)); let x2 := List.drop 0 (zerosL [Value.int .u8 0] 0); let x4 := [Value.int .u8 kd, Value.int .i64 at0, Value.int .i64 n0, bv, kv]; let x6 := List.take 0 x2 ++ List.take (z * 1) (List.drop 0 now); let x7 := List.take 0 x2 ++ List.take (z * 1) (List.drop 0 las); let x8 := List.length P; let x0 := [Value.slice (ad 100005) z z, Value.slice (ad 100006) z z, wrV 100007 x8, Value.int .i64 fu, Value.bool off]; let x3 := List.getD x0 2 undefX; let x5 := List.getD x0 1 undefX; let x9 := decide ((0 + z) * 1 ≤ 140737488355328); let x10 := ch 12 2154 (l0); let x11 := decide (0 + z ≤ 9223372036854775807); let x12 := List.take 5 (List.drop 0 x0); some (tn 6 (List.all x4 one) && (tn 1 (!decide (Int.tmod kd (OfNat.ofNat 8) = 0) && (!decide (Int.tmod kd (OfNat.ofNat 8) = 1) && (!decide (Int.tmod kd (OfNat.ofNat 8) = 2) && (!decide (Int.tmod kd (OfNat.ofNat 8) = 3) && (!decide (Int.tmod kd (OfNat.ofNat 8) = 4) && (!decide (Int.tmod kd (OfNat.ofNat 8) = 5) && tn 1 (!decide (Int.tmod kd (OfNat.ofNat 8) = 6)))))))) && tn 4 (tn 1 (!!decide (0 < (z : Int))) && (tn 4 (decide (0 + List.length x12 ≤ 5) && tn 1 (List.all x12 one)) && tn 2 (tn 7 (!decide (z = 0) && tn 1 (decide (0 + z * 1 ≤ List.length now)) && (!decide (0 + z ≤ 0) && (x9 && (x11 && tn 2 (List.all x6 one))))) && (tn 7 (!decide (z = 0) && tn 1 (decide (0 + z * 1 ≤ List.length las)) && (!decide (0 + z ≤ 0) && (x9 && (x11 && tn 2 (List.all x7 one))))) && tn 8 (!decide (List.length P = 0) && tn 1 (decide (0 + List.length P * 2 ≤ List.length (arrC 0 0 P))) && (!decide (0 + List.length P ≤ 0) && (decide ((0 + List.length P) * 32 ≤ 140737488355328) && (decide (0 + List.length P ≤ 9223372036854775807) && tn 2 (List.all x1 one)))))) && tn 1 (tn 1 (same (List.getD x0 0 undefX) (List.getD x0 0 undefX)) && (same x5 x5 && tn 1 (same x5 x5) && tn 1 (same x3 x3 && (same x3 x3 && tn 1 (same x3 x3))))))))), ((XE.ret, (nn 6 ++ [some (Value.bool true)] ++ nn 133), ⟨(nd (nd (nd (ri (nd (ch 11 1077 (lr (arrC 0 0 P) 2 false)) x10)) (nd (ch 12 2154 (lr [Value.pointer (ad 200001)] 0 false)) (ch 13 4309 (l0)))) (nd (nd (ch 13 4308 (lr [Value.slice (ad 200024) (0 + z) (0 + z), Value.slice (ad 200026) (0 + z) (0 + z), Value.slice (ad 200028) (0 + List.length P) (0 + List.length P), Value.int .i64 fu, Value.bool off] 0 false)) (nd (ch 11 1077 (lr las 1 false)) x10)) (nd (ch 12 2154 (lr now 1 false)) (ch 5 31 (l0))))) (nd (nd (nd (ch 13 4308 (lr x4 0 false)) (nd (ch 11 1077 (lr [Value.slice (ad 100009) z z, Value.slice (ad 100010) x8 x8, Value.bool !off, Value.int .i64 fu] 0 false)) (ch 12 2154 (lr x6 1 false)))) (nd (ch 12 2154 (lr [Value.slice (ad 100005) z z, Value.slice (ad 100006) z z, Value.slice (ad 100007) x8 x8, Value.int .i64 fu, Value.bool off] 0 false)) (ch 13 4309 (lr x1 2 false)))) (nd (ri (nd (ch 11 1077 (lr (arrC 1 0 P) 2 false)) (ch 12 2154 (lr x7 1 false)))) (nd (ch 12 2154 (lr las 1 false)) (ch 6 63 T))))), 200029, 0⟩), []))) := by kernel_rfl
def near1 : Value → Bool
 | .pointer (some ⟨i, _, none⟩) => i != 199997 && i != 199990
 | .slice (some ⟨i, _, none⟩) _ _ => i != 199997 && i != 199990
 | v => plain1 v
theorem near1_ren {b k : Nat} {v : Value} (h : near1 v = true) : RenV (piT b k) v v := by
 unfold near1 at h
 split at h
 ·rename_i i o
  simp only [Bool.and_eq_true, bne_iff_ne] at h
  have := RenV.ptr (π := piT b k) i o; rw [piT_other h.1 h.2] at this; exact this
 ·rename_i i o l c
  simp only [Bool.and_eq_true, bne_iff_ne] at h
  have := RenV.slice (π := piT b k) i o l c; rw [piT_other h.1 h.2] at this; exact this
 ·exact .plain1 h
theorem Near.of {cs : List Value} {s : Nat} {ro : Bool} (h : cs.all near1 = true) : Near (.row cs s ro) := fun b k =>
 .row ⟨rfl, fun i a b ha hb => by rw [ha] at hb; cases hb; exact near1_ren (List.all_eq_true.1 h a (List.mem_of_getElem? ha))⟩
theorem near_arr (q : Nat) : ∀ (P : Pend) (j : Nat), (arrC q j P).all near1 = true
 | [], j => rfl
 | p :: r, j => by
  have hm := tid_mod (100 + 2 * j + q)
  have h1 : near1 (.slice (some ⟨tid (100 + 2 * j + q), 0, none⟩) p.2.length p.2.length) = true := by
   simp only [near1, Bool.and_eq_true, bne_iff_ne]; omega
  simp only [arrC, List.all_cons, near_arr q r (j + 1), h1, Bool.and_true]; rfl
theorem near1_one {v : Value} (h : near1 v = true) : one v = true := by
 unfold near1 at h
 split at h
 ·rfl
 ·rfl
 ·revert h; cases v <;> intro h <;> first | rfl | cases h
theorem lookup_mem {M : List (Nat × Nat)} {j v : Nat} (h : M.lookup j = some v) : (j, v) ∈ M := by
 induction M with
 | nil => cases h
 | cons p r ih =>
  obtain ⟨a, c⟩ := p
  rw [List.lookup_cons] at h
  split at h
  ·rename_i hja
   cases h
   have : j = a := by simpa using hja
   rw [this]; simp
  ·exact List.mem_cons_of_mem _ (ih h)
theorem piM_at {M : List (Nat × Nat)} {n j v : Nat} (h : M.lookup j = some v) : piM M n j = v := by unfold piM; rw [h]
theorem piM_inj {M : List (Nat × Nat)} {n : Nat} (hv : (M.map (·.2)).Nodup) (hM : ∀ p, p ∈ M → 200000 ≤ p.2) {j k : Nat} (hj : j < 200000) (hk : k < 200000) (h : piM M n j = piM M n k) : j = k := by
 unfold piM at h
 split at h
 ·rename_i v hjv
  split at h
  ·rename_i u hku
   subst h
   have h1 := lookup_mem hjv
   have h2 := lookup_mem hku
   have key : ∀ (M : List (Nat × Nat)), (M.map (·.2)).Nodup → (j, v) ∈ M → (k, v) ∈ M → j = k := by
    intro M
    induction M with
    | nil => intro _ h; cases h
    | cons p r ih =>
     intro hn h1 h2
     simp only [List.map_cons, List.nodup_cons] at hn
     rcases List.mem_cons.1 h1 with h1 | h1 <;> rcases List.mem_cons.1 h2 with h2 | h2
     ·rw [← h1] at h2; cases h2; rfl
     ·exact absurd (List.mem_map.2 ⟨_, h2, by rw [← h1]⟩) hn.1
     ·exact absurd (List.mem_map.2 ⟨_, h1, by rw [← h2]⟩) hn.1
     ·exact ih hn.2 h1 h2
   exact key M hv h1 h2
  ·have := hM _ (lookup_mem hjv)
   rw [if_pos hk] at h; simp only at this; omega
 ·rw [if_pos hj] at h
  split at h
  ·rename_i u hku
   have := hM _ (lookup_mem hku)
   simp only at this; omega
  ·rw [if_pos hk] at h; exact h
section
variable {n : Nat} {P P' : Pend} {z : Nat} {las las' : List Value} {fu fu' kd at0 n0 : Int} {off off' : Bool} {B0 C' : St} {args : List Value} {L' : List (Nat × Option Ent)} {N' d : Nat} {R X : List (Nat × Ent)} {b k : Nat} {bv kv bS kS : Value} {call : XCall}
theorem k_lt (I' : DInv n P' z las' fu') {j : Nat} {e : Ent} (h : (j, e) ∈ kRows P' z las' fu' off') : j < 200000 := by
 rw [kRows, ← List.append_assoc] at h
 rcases List.mem_append.1 h with h1 | h1
 ·have := (k_low I' h1).2.1; omega
 ·obtain ⟨i, p, q, g1, g2, rfl, rfl⟩ := mem_kPend h1
  have := (List.getElem?_eq_some_iff.1 g1).1
  have := I'.many; have := I'.n40
  unfold tid; omega
theorem turn_calls0 (I : DInv n P z las fu) (hbv : ArgV bv) (hkv : ArgV kv) (hC : CallSound Tryz.prog call)
 (hrun : Runs Tryz.prog okN call (kp 7) (codeOf Tryz.prog 7) (tArg kd at0 n0 bv kv) (cstX (tOf P) R 200000) .ret tRet C')
 (hR : ∀ p, p ∈ R → p ∈ kMain P z las fu off ++ kArr P) (hNN : Nat.ble 200000 C'.next = true) (hCT : rts 10 C'.heap = tOf P)
 (hU : (L'.all fun p => p.1 % 1024 != 1021 && p.1 % 1024 != 1022 && p.1 != 199997 && p.1 != 199990) = true)
 (hold : (keepR R L').map (fun p => C'.heap.get p.1) = (keepR R L').map (fun p => some p.2))
 (hnew : L'.map (fun p => p.2.bind fun _ => C'.heap.get p.1) = L'.map (·.2)) (hnear : ∀ i y, (i, some y) ∈ L' → Near y ∧ y.ro = false) :
 CallsTo 7 (tArgs kd at0 n0 bv kv) (kSt B0 P z las fu off) (.bool true) ((kSt B0 P z las fu off).upd L' C'.next) := by
 have hrun' : Runs Tryz.prog okN call (kp 7) (codeOf Tryz.prog 7) (tArg kd at0 n0 bv kv) (cstX (tOf P) (R ++ []) 200000) .ret tRet C' := by rw [List.append_nil]; exact hrun
 exact turn_calls (B0 := B0) (X := []) (b := 1021) (k := 2045) I hC hrun' hR (fun p hp => by cases hp) (by decide) (by decide) (by decide) (hbv.ren _ _) (hkv.ren _ _) hNN hCT hU hold rfl hnew hnear
theorem turn_named (M : List (Nat × Nat)) (hB : LowSt B0) (hBn : B0.next = 100003) (I' : DInv n P' z las' fu') (hc : CallsTo 7 args (kSt B0 P z las fu off) (.bool true) ((kSt B0 P z las fu off).upd L' N'))
 (hN : 200000 ≤ N') (hL : ∀ p, p ∈ L' → 100003 ≤ p.1) (hd : ((kSt B0 P z las fu off).upd L' N').heap.get 100003 = some (.row [.pointer (some ⟨d, 0, none⟩)] 0 false))
 (hv : (M.map (·.2)).Nodup) (hM : ∀ p, p ∈ M → 100003 < p.1 ∧ p.1 ≠ 100008 ∧ p.1 < 200000 ∧ 200000 ≤ p.2)
 (hr : ∀ j e, (j, e) ∈ kRows P' z las' fu' off' → ∃ x, ((kSt B0 P z las fu off).upd L' N').heap.get (piM M N' j) = some x ∧ RenE (piM M N') e x) : TurnTo B0 args (kSt B0 P z las fu off) (kSt B0 P' z las' fu' off') := by
 have out : ∀ j, (∀ p, p ∈ M → p.1 ≠ j) → j ∉ M.map (·.1) := fun j h hm => by
  obtain ⟨p, hp, hpe⟩ := List.mem_map.1 hm
  exact h p hp hpe
 have hid : ∀ j, j ≤ 100003 ∨ j = 100008 → piM M N' j = j := fun j hj => piM_id (out j (fun p hp => by have := hM p hp; omega)) (by omega)
 refine ⟨_, d, piM M N', hc, hd, k_named hB hBn (fun j hj => hid j (.inl (by omega))) rfl (fun j hj => ?_) (fun j e h => ?_) (fun j k e f hj hk hjk => piM_inj hv (fun p hp => (hM p hp).2.2.2) (k_lt I' hj) (k_lt I' hk) hjk) (fun j hj => ?_), hid _ (.inl (Nat.le_refl _)), hid _ (.inr rfl)⟩
 ·rw [upd_heap, get_putO_not _ _ _ (fun hm => ?_)]
  ·exact k_old hj
  ·obtain ⟨p, hp, hpe⟩ := List.mem_map.1 hm
   have := hL p hp; omega
 ·obtain ⟨x, h1, h2⟩ := hr j e h
  refine ⟨x, h1, h2, ?_, k_lt I' h⟩
  unfold piM
  split
  ·rename_i v hv
   have := (hM _ (lookup_mem hv)).2.2.2
   simp only at this; omega
  ·rw [if_pos (k_lt I' h)]; exact k_big h
 ·rw [piM_new (out j (fun p hp => by have := hM p hp; omega)) hj, upd_next]; omega
def copyL (P : Pend) (z : Nat) (las : List Value) (fu : Int) (off : Bool) : List (Nat × Option Ent) :=
 [(100003, some (.row [.pointer (some ⟨200001, 0, none⟩)] 0 false)), (200024, some (.row (applyP las P) 1 false)), (200026, some (.row las 1 false))] ++ match P with
 | [] => [(200001, some (.row [.slice (some ⟨200024, 0, none⟩) z z, .slice (some ⟨200026, 0, none⟩) z z, .slice none 0 0, .int .i64 fu, .bool off] 0 false))]
 | p :: r => [(200001, some (.row [.slice (some ⟨200024, 0, none⟩) z z, .slice (some ⟨200026, 0, none⟩) z z, .slice (some ⟨200028, 0, none⟩) (r.length + 1) (r.length + 1), .int .i64 fu, .bool off] 0 false)), (200028, some (.row (arrC 0 0 (p :: r)) 2 false))]
def copyM : List (Nat × Nat) := [(100004, 200001), (100005, 200024), (100006, 200026), (100007, 200028)]
theorem turn_copy (hB : LowSt B0) (hBn : B0.next = 100003) (I : DInv n P z las fu) (hc : CallsTo 7 args (kSt B0 P z las fu off) (.bool true) ((kSt B0 P z las fu off).upd (copyL P z las fu off) N')) (hN : 200000 ≤ N') :
 TurnTo B0 args (kSt B0 P z las fu off) (kSt B0 P z las fu off) := by
 have hnd : ((copyL P z las fu off).map (·.1)).Nodup := by cases P <;> (simp only [copyL, List.cons_append, List.nil_append, List.map_cons, List.map_nil]; decide)
 have put : ∀ i e, (i, some e) ∈ copyL P z las fu off → ((kSt B0 P z las fu off).upd (copyL P z las fu off) N').heap.get i = some e := fun i e h => by
  rw [upd_heap]; exact get_putO_mem _ _ _ _ hnd h
 have keys : ∀ p, p ∈ copyL P z las fu off → p.1 ∈ [100003, 200001, 200024, 200026, 200028] := fun p hp => by
  cases P <;> simp only [copyL, List.cons_append, List.nil_append, List.mem_cons, List.not_mem_nil, or_false] at hp
  ·rcases hp with rfl | rfl | rfl | rfl <;> simp
  ·rcases hp with rfl | rfl | rfl | rfl | rfl <;> simp
 have keep : ∀ i e, (i, e) ∈ kRows P z las fu off → i ≠ 100003 → ((kSt B0 P z las fu off).upd (copyL P z las fu off) N').heap.get i = some e := fun i e h hi => by
  rw [upd_heap, get_putO_not _ _ _ (fun hm => ?_)]
  ·exact k_get h
  ·obtain ⟨p, hp, hpe⟩ := List.mem_map.1 hm
   have h1 := keys p hp
   have h2 := k_lt I h
   rw [hpe] at h1
   simp only [List.mem_cons, List.not_mem_nil, or_false] at h1
   omega
 have hd := put 100003 (.row [.pointer (some ⟨200001, 0, none⟩)] 0 false) (by simp [copyL])
 have id : ∀ j, j < 200000 → j ∉ copyM.map (·.1) → piM copyM N' j = j := fun j h1 h2 => piM_id h2 h1
 refine turn_named copyM hB hBn I hc hN (fun p hp => ?_) hd (by decide) (by decide) (fun j e h => ?_)
 ·have := keys p hp
  simp only [List.mem_cons, List.not_mem_nil, or_false] at this
  omega
 ·have hs : ∀ i l c, RenV (piM copyM N') (.slice (some ⟨i, 0, none⟩) l c) (.slice (some ⟨piM copyM N' i, 0, none⟩) l c) := fun i l c => .slice i 0 l c
  have h4 : piM copyM N' 100004 = 200001 := rfl
  have h5 : piM copyM N' 100005 = 200024 := rfl
  have h6 : piM copyM N' 100006 = 200026 := rfl
  have h7 : piM copyM N' 100007 = 200028 := rfl
  have h9 : piM copyM N' 100009 = 100009 := id _ (by decide) (by decide)
  have h10 : piM copyM N' 100010 = 100010 := id _ (by decide) (by decide)
  have h' := h
  have arr : ∀ q, q < 2 → RenL (piM copyM N') (arrC q 0 P) (arrC q 0 P) := fun q hq => ⟨rfl, fun i a b ha hb => by
   rw [ha] at hb; cases hb
   have hi := (List.getElem?_eq_some_iff.1 ha).1
   rw [arrC_length] at hi
   obtain ⟨g1, g2⟩ := arrC_at q P 0 (i / 2) (P[i / 2]'(by omega)) (List.getElem?_eq_getElem (by omega))
   rcases Nat.mod_two_eq_zero_or_one i with hm | hm
   ·rw [show 2 * (i / 2) = i by omega, ha] at g1
    cases g1; exact .int _ _
   ·rw [show 2 * (i / 2) + 1 = i by omega, ha] at g2
    cases g2
    have hlt : tid (100 + 2 * (0 + i / 2) + q) < 200000 := by have := I.many; have := I.n40; unfold tid; omega
    have := hs (tid (100 + 2 * (0 + i / 2) + q)) (P[i / 2]'(by omega)).2.length (P[i / 2]'(by omega)).2.length
    rw [id _ hlt (fun hm => by
     simp only [copyM, List.map_cons, List.map_nil, List.mem_cons, List.not_mem_nil, or_false] at hm
     have := tid_mod (100 + 2 * (0 + i / 2) + q)
     omega)] at this
    exact this⟩
  rcases List.mem_append.1 h with h | h
  ·simp only [kMain, List.mem_cons, List.not_mem_nil, or_false, Prod.mk.injEq] at h
   rcases h with ⟨rfl, rfl⟩ | ⟨rfl, rfl⟩ | ⟨rfl, rfl⟩ | ⟨rfl, rfl⟩ | ⟨rfl, rfl⟩ | ⟨rfl, rfl⟩
   ·refine ⟨_, by rw [id _ (by decide) (by decide)]; exact hd, .row (.cons ?_ .nil)⟩
    have := RenV.ptr (π := piM copyM N') 100004 0; rw [h4] at this; exact this
   ·have e1 := hs 100005 z z; rw [h5] at e1
    have e2 := hs 100006 z z; rw [h6] at e2
    cases P with
    | nil =>
     have p1 := put 200001 (.row [.slice (some ⟨200024, 0, none⟩) z z, .slice (some ⟨200026, 0, none⟩) z z, .slice none 0 0, .int .i64 fu, .bool off] 0 false) (by simp [copyL])
     exact ⟨_, by rw [h4]; exact p1, .row (.cons e1 (.cons e2 (.cons (.plain1 rfl) (.cons (.int _ _) (.cons (.bool _) .nil)))))⟩
    | cons p r =>
     have e3 := hs 100007 (r.length + 1) (r.length + 1); rw [h7] at e3
     have p1 := put 200001 (.row [.slice (some ⟨200024, 0, none⟩) z z, .slice (some ⟨200026, 0, none⟩) z z, .slice (some ⟨200028, 0, none⟩) (r.length + 1) (r.length + 1), .int .i64 fu, .bool off] 0 false) (by simp [copyL])
     exact ⟨_, by rw [h4]; exact p1, .row (.cons e1 (.cons e2 (.cons e3 (.cons (.int _ _) (.cons (.bool _) .nil)))))⟩
   ·exact ⟨_, by rw [h5]; exact put 200024 _ (by simp [copyL]), bytes_ren (now_bytes I) _⟩
   ·exact ⟨_, by rw [h6]; exact put 200026 _ (by simp [copyL]), bytes_ren I.bytes _⟩
   ·have h8 : piM copyM N' 100008 = 100008 := id _ (by decide) (by decide)
    have e1 := hs 100009 z z; rw [h9] at e1
    refine ⟨_, by rw [h8]; exact keep _ _ h' (by decide), .row (.cons e1 (.cons ?_ (.cons (.bool _) (.cons (.int _ _) .nil))))⟩
    cases P with
    | nil => exact .plain1 rfl
    | cons p r => have e3 := hs 100010 (r.length + 1) (r.length + 1); rw [h10] at e3; exact e3
   ·exact ⟨_, by rw [h9]; exact keep _ _ h' (by decide), bytes_ren I.bytes _⟩
  ·rcases List.mem_append.1 h with h | h
   ·cases P with
    | nil => cases h
    | cons p r =>
     simp only [kArr, List.mem_cons, List.not_mem_nil, or_false, Prod.mk.injEq] at h
     rcases h with ⟨rfl, rfl⟩ | ⟨rfl, rfl⟩
     ·have p1 := put 200028 (.row (arrC 0 0 (p :: r)) 2 false) (by simp [copyL])
      exact ⟨_, by rw [h7]; exact p1, .row (arr 0 (by decide))⟩
     ·exact ⟨_, by rw [h10]; exact keep _ _ h' (by decide), .row (arr 1 (by decide))⟩
   ·have h2 := k_lt I h'
    obtain ⟨i, p, q, g1, g2, rfl, rfl⟩ := mem_kPend h
    have hm := tid_mod (100 + 2 * i + q)
    have h3 : tid (100 + 2 * i + q) ∉ copyM.map (·.1) := fun hm2 => by
     simp only [copyM, List.map_cons, List.map_nil, List.mem_cons, List.not_mem_nil, or_false] at hm2
     omega
    exact ⟨_, by rw [id _ h2 h3]; exact keep _ _ h' (by omega), bytes_ren (I.fits p (List.mem_of_getElem? g1)).2 _⟩
theorem st_co0 (hB : LowSt B0) (hBn : B0.next = 100003) (I : DInv n [] z las fu) (hbv : ArgV bv) (hkv : ArgV kv) (hk : Int.tmod kd (OfNat.ofNat 8) = 7) : TurnTo B0 (tArgs kd at0 n0 bv kv) (kSt B0 [] z las fu off) (kSt B0 [] z las fu off) := by
 have hz := I.size
 have hp := I.pos
 have hll := I.len
 have h := tCo0 (tOf []) z las las kd at0 n0 fu off bv kv
 have e3 : List.take z las = las := List.take_of_length_le (by omega)
 simp only [Nat.zero_add, Nat.mul_one, List.take_zero, List.nil_append, List.drop_zero, e3] at h
 refine turn_copy hB hBn I (turn_calls0 (L' := copyL [] z las fu off) I hbv hkv callZ (Runs.path yxZ h ?_) (rV_in (P := [])) rfl (by kernel_rfl) (by kernel_rfl) (by kernel_rfl) (by kernel_rfl) (fun i y hi => ?_)) (Nat.le_of_ble_eq_true rfl)
 ·repeat rw [same_of]
  ·simp only [hk, all5 hbv.one hkv.one, ones_bytes I.bytes, tn, rp, Bool.and_eq_true, Bool.not_eq_true', Bool.not_not, Bool.not_true, Bool.not_false, decide_eq_true_eq, decide_eq_false_iff_not, true_and, and_true, List.take_succ_cons, List.take_zero, List.take_nil, List.length_cons, List.length_nil, List.all_cons, List.all_nil, hll, one]
   omega
  all_goals rfl
 ·simp only [copyL, List.cons_append, List.nil_append, List.mem_cons, List.not_mem_nil, or_false, Prod.mk.injEq, Option.some.injEq] at hi
  rcases hi with ⟨rfl, rfl⟩ | ⟨rfl, rfl⟩ | ⟨rfl, rfl⟩ | ⟨rfl, rfl⟩
  ·exact ⟨.of rfl, rfl⟩
  ·exact ⟨.bytes I.bytes, rfl⟩
  ·exact ⟨.bytes I.bytes, rfl⟩
  ·exact ⟨.of rfl, rfl⟩
theorem copyL_cons (hne : P ≠ []) : copyL P z las fu off = [(100003, some (.row [.pointer (some ⟨200001, 0, none⟩)] 0 false)), (200024, some (.row (applyP las P) 1 false)), (200026, some (.row las 1 false)), (200001, some (.row [.slice (some ⟨200024, 0, none⟩) z z, .slice (some ⟨200026, 0, none⟩) z z, .slice (some ⟨200028, 0, none⟩) P.length P.length, .int .i64 fu, .bool off] 0 false)), (200028, some (.row (arrC 0 0 P) 2 false))] := by
 cases P with
 | nil => exact absurd rfl hne
 | cons p r => rfl
theorem arr_take (q : Nat) (P : Pend) : List.take (P.length * 2) (arrC q 0 P) = arrC q 0 P := List.take_of_length_le (by rw [arrC_length]; omega)
theorem st_coP (hB : LowSt B0) (hBn : B0.next = 100003) (I : DInv n P z las fu) (hne : P ≠ []) (hbv : ArgV bv) (hkv : ArgV kv) (hk : Int.tmod kd (OfNat.ofNat 8) = 7) : TurnTo B0 (tArgs kd at0 n0 bv kv) (kSt B0 P z las fu off) (kSt B0 P z las fu off) := by
 have hz := I.size
 have hp := I.pos
 have hll := I.len
 have hl := now_len I
 have hby := now_bytes I
 have hm := I.many
 have h40 := I.n40
 have hpl : 0 < P.length := List.length_pos_iff.2 hne
 have h := tCoP (tOf P) P z (applyP las P) las kd at0 n0 fu off bv kv
 have e3 : List.take z las = las := List.take_of_length_le (by omega)
 have e4 : List.take z (applyP las P) = applyP las P := List.take_of_length_le (by omega)
 simp only [Nat.zero_add, Nat.mul_one, List.take_zero, List.nil_append, List.drop_zero, e3, e4, arr_take] at h
 have ha : (arrC 0 0 P).all one = true := List.all_eq_true.2 fun v hv => near1_one (List.all_eq_true.1 (near_arr 0 P 0) v hv)
 have hL := copyL_cons (z := z) (las := las) (fu := fu) (off := off) hne
 refine turn_copy hB hBn I (turn_calls0 (L' := copyL P z las fu off) I hbv hkv callZ (Runs.path yxZ h ?_) (rP_in hne) rfl (by kernel_rfl) (by rw [hL]; kernel_rfl) (by rw [hL]; kernel_rfl) (by rw [hL]; kernel_rfl) (fun i y hi => ?_)) (Nat.le_of_ble_eq_true rfl)
 ·repeat rw [same_of]
  ·simp only [hk, all5 hbv.one hkv.one, ones_bytes I.bytes, ones_bytes hby, ha, arrC_length, wrV, tn, rp, Bool.and_eq_true, Bool.not_eq_true', Bool.not_not, Bool.not_true, Bool.not_false, decide_eq_true_eq, decide_eq_false_iff_not, true_and, and_true, List.take_succ_cons, List.take_zero, List.take_nil, List.length_cons, List.length_nil, List.all_cons, List.all_nil, hll, hl, one]
   omega
  all_goals rfl
 ·rw [hL] at hi
  simp only [List.mem_cons, List.not_mem_nil, or_false, Prod.mk.injEq, Option.some.injEq] at hi
  rcases hi with ⟨rfl, rfl⟩ | ⟨rfl, rfl⟩ | ⟨rfl, rfl⟩ | ⟨rfl, rfl⟩ | ⟨rfl, rfl⟩
  ·exact ⟨.of rfl, rfl⟩
  ·exact ⟨.bytes hby, rfl⟩
  ·exact ⟨.bytes I.bytes, rfl⟩
  ·exact ⟨.of rfl, rfl⟩
  ·exact ⟨.of (near_arr 0 P 0), rfl⟩
end
theorem lookup_of_mem : ∀ {M : List (Nat × Nat)} {j v : Nat}, (M.map (·.1)).Nodup → (j, v) ∈ M → M.lookup j = some v
 | (a, c) :: r, j, v, hn, h => by
  simp only [List.map_cons, List.nodup_cons] at hn
  rw [List.lookup_cons]
  rcases List.mem_cons.1 h with h1 | h1
  ·cases h1; simp
  ·have : (j == a) = false := by
    have : j ≠ a := fun e => hn.1 (List.mem_map.2 ⟨_, h1, e⟩)
    simpa using this
   rw [this]
   exact lookup_of_mem hn.2 h1
theorem arrC_append (q : Nat) (p : Nat × List Value) : ∀ (P : Pend) (j : Nat), arrC q j (P ++ [p]) = arrC q j P ++ [.int .i64 (p.1 : Int), .slice (some ⟨tid (100 + 2 * (j + P.length) + q), 0, none⟩) p.2.length p.2.length]
 | [], j => rfl
 | x :: r, j => by
  have h := arrC_append q p r (j + 1)
  rw [show j + 1 + r.length = j + (x :: r).length by simp only [List.length_cons]; omega] at h
  simp only [List.cons_append, arrC, h]
theorem arr_ren {π : Nat → Nat} {q : Nat} {P : Pend} (h : ∀ i, i < P.length → π (tid (100 + 2 * i + q)) = tid (100 + 2 * i + q)) : RenL π (arrC q 0 P) (arrC q 0 P) := ⟨rfl, fun i a b ha hb => by
 rw [ha] at hb; cases hb
 have hi := (List.getElem?_eq_some_iff.1 ha).1
 rw [arrC_length] at hi
 obtain ⟨g1, g2⟩ := arrC_at q P 0 (i / 2) (P[i / 2]'(by omega)) (List.getElem?_eq_getElem (by omega))
 rw [Nat.zero_add] at g2
 rcases Nat.mod_two_eq_zero_or_one i with hm | hm
 ·rw [show 2 * (i / 2) = i by omega, ha] at g1
  cases g1; exact .int _ _
 ·rw [show 2 * (i / 2) + 1 = i by omega, ha] at g2
  cases g2
  have := RenV.slice (π := π) (tid (100 + 2 * (i / 2) + q)) 0 (P[i / 2]'(by omega)).2.length (P[i / 2]'(by omega)).2.length
  rw [h (i / 2) (by omega)] at this
  exact this⟩
def wrL (P : Pend) (z : Nat) (nw : List Value) (A m : Nat) (B : List Value) (fu' : Int) (n1 n2 n3 n4 : Nat) : List (Nat × Option Ent) :=
 [(100004, some (.row [.slice (some ⟨100005, 0, none⟩) z z, .slice (some ⟨100006, 0, none⟩) z z, .slice (some ⟨n1, 0, none⟩) (P.length + 1) (P.length + 1), .int .i64 fu', .bool false] 0 false)), (100005, some (.row nw 1 false)), (100007, none), (100008, some (.row [.slice (some ⟨100009, 0, none⟩) z z, .slice (some ⟨n2, 0, none⟩) (P.length + 1) (P.length + 1), .bool true, .int .i64 fu'] 0 false)), (100010, none),
   (n1, some (.row (arrC 0 0 P ++ [.int .i64 (A : Int), .slice (some ⟨n3, 0, none⟩) m m]) 2 false)), (n2, some (.row (arrC 1 0 P ++ [.int .i64 (A : Int), .slice (some ⟨n4, 0, none⟩) m m]) 2 false)), (n3, some (.row B 1 false)), (n4, some (.row B 1 false))]
def wrKeys (n1 n2 n3 n4 : Nat) : List Nat := [100004, 100005, 100007, 100008, 100010, n1, n2, n3, n4]
section
variable {n : Nat} {P : Pend} {z : Nat} {las : List Value} {fu fu' kd at0 n0 : Int} {off : Bool} {B0 C' : St} {args : List Value} {N' A m n1 n2 n3 n4 : Nat} {B nw : List Value}
theorem DInv.write (I : DInv n P z las fu) (hn : n < 40) (hfit : A + B.length ≤ z) (hBy : B.all isByte = true) (h1 : -1 ≤ fu') (h2 : fu' < 2 ^ 63) : DInv (n + 1) (P ++ [(A, B)]) z las fu' :=
 ⟨by have := I.many; simp only [List.length_append, List.length_cons, List.length_nil]; omega, by omega, I.size, I.pos, fun p hp => by
  rcases List.mem_append.1 hp with h | h
  ·exact I.fits p h
  ·obtain rfl := List.mem_singleton.1 h
   exact ⟨hfit, hBy⟩, I.len, I.bytes, h1, h2⟩
theorem wr_near (hnw : nw.all isByte = true) (hBy : B.all isByte = true) (h1 : near1 (.slice (some ⟨n1, 0, none⟩) 0 0) = true) (h2 : near1 (.slice (some ⟨n2, 0, none⟩) 0 0) = true) (h3 : near1 (.slice (some ⟨n3, 0, none⟩) 0 0) = true) (h4 : near1 (.slice (some ⟨n4, 0, none⟩) 0 0) = true) :
 ∀ i y, (i, some y) ∈ wrL P z nw A m B fu' n1 n2 n3 n4 → Near y ∧ y.ro = false := by
 intro i y hi
 have hs : ∀ {x l c}, near1 (.slice (some ⟨x, 0, none⟩) 0 0) = true → near1 (.slice (some ⟨x, 0, none⟩) l c) = true := fun h => h
 simp only [wrL, List.mem_cons, List.not_mem_nil, or_false, Prod.mk.injEq, Option.some.injEq, reduceCtorEq, and_false, false_or] at hi
 rcases hi with ⟨rfl, rfl⟩ | ⟨rfl, rfl⟩ | ⟨rfl, rfl⟩ | ⟨rfl, rfl⟩ | ⟨rfl, rfl⟩ | ⟨rfl, rfl⟩ | ⟨rfl, rfl⟩
 ·exact ⟨.of (by simp only [List.all_cons, hs h1]; rfl), rfl⟩
 ·exact ⟨.bytes hnw, rfl⟩
 ·exact ⟨.of (by simp only [List.all_cons, hs h2]; rfl), rfl⟩
 ·exact ⟨.of (by simp only [List.all_append, List.all_cons, near_arr, hs h3]; rfl), rfl⟩
 ·exact ⟨.of (by simp only [List.all_append, List.all_cons, near_arr, hs h4]; rfl), rfl⟩
 ·exact ⟨.bytes hBy, rfl⟩
 ·exact ⟨.bytes hBy, rfl⟩
theorem turn_write (hB : LowSt B0) (hBn : B0.next = 100003) (I : DInv n P z las fu) (hn : n < 40) (hm : B.length = m) (hnw : nw = splice (applyP las P) A B) (hfit : A + m ≤ z) (hBy : B.all isByte = true) (h1 : -1 ≤ fu') (h2 : fu' < 2 ^ 63)
 (hc : CallsTo 7 args (kSt B0 P z las fu false) (.bool true) ((kSt B0 P z las fu false).upd (wrL P z nw A m B fu' n1 n2 n3 n4) N')) (hN : 200000 ≤ N')
 (hnew : 200000 ≤ n1 ∧ 200000 ≤ n2 ∧ 200000 ≤ n3 ∧ 200000 ≤ n4) (hnd : (wrKeys n1 n2 n3 n4).Nodup) :
 TurnTo B0 args (kSt B0 P z las fu false) (kSt B0 (P ++ [(A, B)]) z las fu' false) := by
 subst hm
 have I' := I.write hn hfit hBy h1 h2
 have hml := I.many
 obtain ⟨g1, g2, g3, g4⟩ := hnew
 have hkeys : (wrL P z nw A B.length B fu' n1 n2 n3 n4).map (·.1) = wrKeys n1 n2 n3 n4 := rfl
 have put : ∀ i e, (i, some e) ∈ wrL P z nw A B.length B fu' n1 n2 n3 n4 → ((kSt B0 P z las fu false).upd (wrL P z nw A B.length B fu' n1 n2 n3 n4) N').heap.get i = some e := fun i e h => by
  rw [upd_heap]; exact get_putO_mem _ _ _ _ (by rw [hkeys]; exact hnd) h
 have keep : ∀ i e, (i, e) ∈ kRows P z las fu false → i ∉ [100004, 100005, 100007, 100008, 100010] → ((kSt B0 P z las fu false).upd (wrL P z nw A B.length B fu' n1 n2 n3 n4) N').heap.get i = some e := fun i e h hi => by
  rw [upd_heap, get_putO_not _ _ _ (fun hmem => ?_)]
  ·exact k_get h
  ·rw [hkeys] at hmem
   have h3 := k_lt I h
   simp only [wrKeys, List.mem_cons, List.not_mem_nil, or_false] at hmem hi
   omega
 let M : List (Nat × Nat) := [(100007, n1), (100010, n2), (tid (100 + 2 * P.length), n3), (tid (100 + 2 * P.length + 1), n4)]
 have t0 := tid_mod (100 + 2 * P.length)
 have t1 := tid_mod (100 + 2 * P.length + 1)
 have tl : 100003 < tid (100 + 2 * P.length) ∧ tid (100 + 2 * P.length + 1) < 200000 ∧ tid (100 + 2 * P.length) < tid (100 + 2 * P.length + 1) := by unfold tid; omega
 have hMk : (M.map (·.1)).Nodup := by
  simp only [M, List.map_cons, List.map_nil, List.nodup_cons, List.mem_cons, List.not_mem_nil, or_false, not_or, List.nodup_nil, and_true, not_false_eq_true]
  omega
 have hMv : (M.map (·.2)).Nodup := by
  simp only [wrKeys, List.nodup_cons, List.mem_cons, List.not_mem_nil, or_false, not_or, List.nodup_nil, and_true, not_false_eq_true] at hnd
  simp only [M, List.map_cons, List.map_nil, List.nodup_cons, List.mem_cons, List.not_mem_nil, or_false, not_or, List.nodup_nil, and_true, not_false_eq_true]
  omega
 have at_ : ∀ {j v}, (j, v) ∈ M → piM M N' j = v := fun h => piM_at (lookup_of_mem hMk h)
 have id : ∀ j, j < 200000 → j ∉ M.map (·.1) → piM M N' j = j := fun j h1 h2 => piM_id h2 h1
 have idm : ∀ j, j ∈ [100003, 100004, 100005, 100006, 100008, 100009] → piM M N' j = j := fun j hj => id j (by
  simp only [List.mem_cons, List.not_mem_nil, or_false] at hj; omega) (fun h => by
  simp only [M, List.map_cons, List.map_nil, List.mem_cons, List.not_mem_nil, or_false] at h hj; omega)
 have h7 : piM M N' 100007 = n1 := at_ (by simp [M])
 have h10 : piM M N' 100010 = n2 := at_ (by simp [M])
 have ht0 : piM M N' (tid (100 + 2 * P.length)) = n3 := at_ (by simp [M])
 have ht1 : piM M N' (tid (100 + 2 * P.length + 1)) = n4 := at_ (by simp [M])
 have hti : ∀ i q, i < P.length → q < 2 → piM M N' (tid (100 + 2 * i + q)) = tid (100 + 2 * i + q) := fun i q hi hq => id _ (by have := I.n40; unfold tid; omega) (fun h => by
  have := tid_mod (100 + 2 * i + q)
  simp only [M, List.map_cons, List.map_nil, List.mem_cons, List.not_mem_nil, or_false] at h
  unfold tid at *
  omega)
 have hs : ∀ i l c, RenV (piM M N') (.slice (some ⟨i, 0, none⟩) l c) (.slice (some ⟨piM M N' i, 0, none⟩) l c) := fun i l c => .slice i 0 l c
 have hd : ((kSt B0 P z las fu false).upd (wrL P z nw A B.length B fu' n1 n2 n3 n4) N').heap.get 100003 = some (.row [.pointer (some ⟨100004, 0, none⟩)] 0 false) := keep 100003 _ (List.mem_append.2 (.inl (by simp [kMain]))) (by decide)
 have hne : P ++ [(A, B)] ≠ [] := by simp
 have hl1 : (P ++ [(A, B)]).length = P.length + 1 := by simp
 refine turn_named M hB hBn I' hc hN (fun p hp => ?_) hd hMv (fun p hp => ?_) (fun j e h => ?_)
 ·have h3 : p.1 ∈ wrKeys n1 n2 n3 n4 := by rw [← hkeys]; exact List.mem_map.2 ⟨p, hp, rfl⟩
  simp only [wrKeys, List.mem_cons, List.not_mem_nil, or_false] at h3
  omega
 ·simp only [M, List.mem_cons, List.not_mem_nil, or_false] at hp
  rcases hp with rfl | rfl | rfl | rfl <;> simp only <;> omega
 ·rcases List.mem_append.1 h with h | h
  ·simp only [kMain, List.mem_cons, List.not_mem_nil, or_false, Prod.mk.injEq] at h
   rcases h with ⟨rfl, rfl⟩ | ⟨rfl, rfl⟩ | ⟨rfl, rfl⟩ | ⟨rfl, rfl⟩ | ⟨rfl, rfl⟩ | ⟨rfl, rfl⟩
   ·refine ⟨_, by rw [idm _ (by decide)]; exact hd, .row (.cons ?_ .nil)⟩
    have := RenV.ptr (π := piM M N') 100004 0; rw [idm _ (by decide)] at this; exact this
   ·have e1 := hs 100005 z z; rw [idm _ (by decide)] at e1
    have e2 := hs 100006 z z; rw [idm _ (by decide)] at e2
    have e3 := hs 100007 (P.length + 1) (P.length + 1); rw [h7] at e3
    rw [wD_cons hne, hl1]
    have p1 := put 100004 (.row [.slice (some ⟨100005, 0, none⟩) z z, .slice (some ⟨100006, 0, none⟩) z z, .slice (some ⟨n1, 0, none⟩) (P.length + 1) (P.length + 1), .int .i64 fu', .bool false] 0 false) (by simp only [wrL]; simp)
    exact ⟨_, by rw [idm _ (by decide)]; exact p1, .row (.cons e1 (.cons e2 (.cons e3 (.cons (.int _ _) (.cons (.bool _) .nil)))))⟩
   ·have p1 := put 100005 (.row nw 1 false) (by simp only [wrL]; simp)
    rw [applyP_append, show applyP (applyP las P) [(A, B)] = nw from hnw.symm]
    exact ⟨_, by rw [idm _ (by decide)]; exact p1, bytes_ren (by rw [hnw]; exact splice_bytes (now_bytes I) hBy) _⟩
   ·have p1 := keep 100006 (.row las 1 false) (List.mem_append.2 (.inl (by simp [kMain]))) (by decide)
    exact ⟨_, by rw [idm _ (by decide)]; exact p1, bytes_ren I.bytes _⟩
   ·have e1 := hs 100009 z z; rw [idm _ (by decide)] at e1
    have e3 := hs 100010 (P.length + 1) (P.length + 1); rw [h10] at e3
    rw [wS_cons hne, hl1]
    have p1 := put 100008 (.row [.slice (some ⟨100009, 0, none⟩) z z, .slice (some ⟨n2, 0, none⟩) (P.length + 1) (P.length + 1), .bool true, .int .i64 fu'] 0 false) (by simp only [wrL]; simp)
    exact ⟨_, by rw [idm _ (by decide)]; exact p1, .row (.cons e1 (.cons e3 (.cons (.bool _) (.cons (.int _ _) .nil))))⟩
   ·have p1 := keep 100009 (.row las 1 false) (List.mem_append.2 (.inl (by simp [kMain]))) (by decide)
    exact ⟨_, by rw [idm _ (by decide)]; exact p1, bytes_ren I.bytes _⟩
  ·rcases List.mem_append.1 h with h | h
   ·rw [kArr_cons hne] at h
    simp only [List.mem_cons, List.not_mem_nil, or_false, Prod.mk.injEq] at h
    rcases h with ⟨rfl, rfl⟩ | ⟨rfl, rfl⟩
    ·have p1 := put n1 (.row (arrC 0 0 P ++ [.int .i64 (A : Int), .slice (some ⟨n3, 0, none⟩) B.length B.length]) 2 false) (by simp only [wrL]; simp)
     have e3 := hs (tid (100 + 2 * P.length)) B.length B.length; rw [ht0] at e3
     rw [arrC_append, Nat.zero_add]
     exact ⟨_, by rw [h7]; exact p1, .row ((arr_ren (fun i hi => hti i 0 hi (by decide))).append (.cons (.int _ _) (.cons e3 .nil)))⟩
    ·have p1 := put n2 (.row (arrC 1 0 P ++ [.int .i64 (A : Int), .slice (some ⟨n4, 0, none⟩) B.length B.length]) 2 false) (by simp only [wrL]; simp)
     have e3 := hs (tid (100 + 2 * P.length + 1)) B.length B.length; rw [ht1] at e3
     rw [arrC_append, Nat.zero_add]
     exact ⟨_, by rw [h10]; exact p1, .row ((arr_ren (fun i hi => hti i 1 hi (by decide))).append (.cons (.int _ _) (.cons e3 .nil)))⟩
   ·obtain ⟨i, p, q, f1, f2, rfl, rfl⟩ := mem_kPend h
    have hi := (List.getElem?_eq_some_iff.1 f1).1
    rw [hl1] at hi
    by_cases hik : i < P.length
    ·rw [List.getElem?_append_left hik] at f1
     have hm := tid_mod (100 + 2 * i + q)
     have p1 := keep (tid (100 + 2 * i + q)) (.row p.2 1 false) (List.mem_append.2 (.inr (List.mem_append.2 (.inr (kPend_mem f2 f1))))) (fun h => by
      simp only [List.mem_cons, List.not_mem_nil, or_false] at h; omega)
     exact ⟨_, by rw [hti i q hik f2]; exact p1, bytes_ren (I.fits p (List.mem_of_getElem? f1)).2 _⟩
    ·have hik' : i = P.length := by omega
     subst hik'
     rw [List.getElem?_append_right (Nat.le_refl _), Nat.sub_self] at f1
     simp only [List.getElem?_cons_zero, Option.some.injEq] at f1
     subst f1
     have hq : q = 0 ∨ q = 1 := by omega
     rcases hq with rfl | rfl
     ·exact ⟨_, by rw [Nat.add_zero, ht0]; exact put n3 (.row B 1 false) (by simp only [wrL]; simp), bytes_ren hBy _⟩
     ·exact ⟨_, by rw [ht1]; exact put n4 (.row B 1 false) (by simp only [wrL]; simp), bytes_ren hBy _⟩
end
end Go.Xe
