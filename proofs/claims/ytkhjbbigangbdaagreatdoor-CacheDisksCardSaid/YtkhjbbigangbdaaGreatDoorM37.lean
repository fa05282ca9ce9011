/- A part of the proof. -/
import Derived.Test.YtkhjbbigangbdaaGreatDoorM31
import Derived.Test.YtkhjbbigangbdaaGreatDoorM32
import Derived.Test.YtkhjbbigangbdaaGreatDoorM33
import Derived.Test.YtkhjbbigangbdaaGreatDoorM35
import Derived.Test.YtkhjbbigangbdaaGreatDoorM36
import Derived.Test.YtkhjbbigangbdaaGreatDoorM27
set_option linter.all false
namespace Go.Xe
open Go Go.Proofs
theorem DInv.mono {n m : Nat} {P : Pend} {z : Nat} {las : List Value} {fu : Int} (I : DInv n P z las fu) (h : n ≤ m) (hm : m ≤ 40) : DInv m P z las fu :=
 ⟨Nat.le_trans I.many h, hm, I.size, I.pos, I.fits, I.len, I.bytes, I.lo, I.hi⟩
structure TurnIn (B0 : St) (kd at0 n0 : Int) (bv kv : Value) : Prop where
 kd0 : 0 ≤ kd
 alo : -(2 : Int) ^ 63 ≤ at0
 ahi : at0 < 2 ^ 63
 nlo : -(2 : Int) ^ 63 ≤ n0
 nhi : n0 < 2 ^ 63
 b : bv = .slice none 0 0 ∨ ∃ u lb cb bs, bv = .slice (some ⟨u, 0, none⟩) lb cb ∧ BX B0 u bs ∧ lb ≤ cb ∧ cb ≤ bs.length
 k : kv = .slice none 0 0 ∨ ∃ u lk kc ks, kv = .slice (some ⟨u, 0, none⟩) lk kc ∧ (u % 1024 = 1021 ∧ u < 100003) ∧ B0.heap.get u = some (.row ks 1 true) ∧ ks.all isBool = true ∧ lk ≤ ks.length
theorem TurnIn.bv {B0 : St} {kd at0 n0 : Int} {bv kv : Value} (h : TurnIn B0 kd at0 n0 bv kv) : ArgV bv := by
 rcases h.b with h | ⟨u, lb, cb, bs, h, hu, _⟩
 ·exact .inl h
 ·exact .inr ⟨u, lb, cb, h, hu.lt⟩
theorem TurnIn.kv {B0 : St} {kd at0 n0 : Int} {bv kv : Value} (h : TurnIn B0 kd at0 n0 bv kv) : ArgV kv := by
 rcases h.k with h | ⟨u, lk, kc, ks, h, hu, _⟩
 ·exact .inl h
 ·exact .inr ⟨u, lk, kc, h, hu.2⟩
section
variable {n : Nat} {P : Pend} {z : Nat} {las : List Value} {fu kd at0 n0 : Int} {off : Bool} {B0 : St} {bv kv : Value}
def Step (n : Nat) (B0 : St) (args : List Value) (z : Nat) (K : St) : Prop := ∃ P' las' fu' off', DInv (n + 1) P' z las' fu' ∧ TurnTo B0 args K (kSt B0 P' z las' fu' off')
theorem Step.same (I : DInv n P z las fu) (hn : n < 40) {args : List Value} {K : St} (h : TurnTo B0 args K (kSt B0 P z las fu off)) : Step n B0 args z K := ⟨_, _, _, _, I.mono (by omega) (by omega), h⟩
variable (hB : LowSt B0) (hBn : B0.next = 100003) (hn : n < 40) (T : TurnIn B0 kd at0 n0 bv kv) (I : DInv n P z las fu)
include hB hBn hn T I
theorem step_write (hk : Int.tmod kd (OfNat.ofNat 8) = 0) : Step n B0 (tArgs kd at0 n0 bv kv) z (kSt B0 P z las fu off) := by
 have hlo := I.lo
 have hhi := I.hi
 have hfu : fu = 0 ∨ fu = -1 ∨ ∃ F : Nat, fu = (F : Int) + 1 := by
  by_cases h0 : fu = 0
  ·exact .inl h0
  ·by_cases h1 : fu = -1
   ·exact .inr (.inl h1)
   ·exact .inr (.inr ⟨(fu - 1).toNat, by omega⟩)
 have Iw : ∀ {A : Nat} {B : List Value} {fu' : Int}, A + B.length ≤ z → B.all isByte = true → -1 ≤ fu' → fu' < 2 ^ 63 → DInv (n + 1) (P ++ [(A, B)]) z las fu' := fun h1 h2 h3 h4 => I.write hn h1 h2 h3 h4
 have I1 : DInv n P z las (-1) := ⟨I.many, I.n40, I.size, I.pos, I.fits, I.len, I.bytes, by omega, by omega⟩
 have hP : P = [] ∨ P ≠ [] := by cases P <;> simp
 have hkv := T.kv
 rcases T.b with rfl | ⟨u, lb, cb, bs, rfl, hu, hlc, hcb⟩
 ·cases off with
  | true => exact .same I hn (sw_NOff hB hBn hkv I hk)
  | false =>
   by_cases h1 : at0 < 0
   ·exact .same I hn (sw_NAt hB hBn hkv I h1 hk)
   by_cases h2 : (z : Int) < at0
   ·exact .same I hn (sw_NAt2 hB hBn hkv I h2 hk)
   obtain ⟨A, rfl⟩ := Int.eq_ofNat_of_zero_le (by omega : 0 ≤ at0)
   rcases hfu with rfl | rfl | ⟨F, rfl⟩
   ·exact .same I1 hn (sw_NFuse hB hBn hkv I (by omega) hk)
   ·rcases hP with rfl | hne
    ·exact ⟨_, _, _, _, Iw (by simp; omega) rfl (by omega) (by omega), sw_N0n hB hBn hkv I hn (by omega) hk⟩
    ·exact ⟨_, _, _, _, Iw (by simp; omega) rfl (by omega) (by omega), sw_NPn hB hBn hkv I hn hne (by omega) hk⟩
   ·rcases hP with rfl | hne
    ·exact ⟨_, _, _, _, Iw (by simp; omega) rfl (by omega) (by omega), sw_N0f hB hBn hkv I hn (by omega) hk⟩
    ·exact ⟨_, _, _, _, Iw (by simp; omega) rfl (by omega) (by omega), sw_NPf hB hBn hkv I hn hne (by omega) hk⟩
 ·by_cases hl0 : lb = 0
  ·subst hl0
   cases off with
   | true => exact .same I hn (sw_EOff hB hBn hkv hu I hk)
   | false =>
    by_cases h1 : at0 < 0
    ·exact .same I hn (sw_EAt hB hBn hkv hu I h1 hk)
    by_cases h2 : (z : Int) < at0
    ·exact .same I hn (sw_EAt2 hB hBn hkv hu I h2 hk)
    obtain ⟨A, rfl⟩ := Int.eq_ofNat_of_zero_le (by omega : 0 ≤ at0)
    rcases hfu with rfl | rfl | ⟨F, rfl⟩
    ·exact .same I1 hn (sw_EFuse hB hBn hkv hu I (by omega) hk)
    ·rcases hP with rfl | hne
     ·exact ⟨_, _, _, _, Iw (by simp; omega) rfl (by omega) (by omega), sw_E0n hB hBn hkv hu I hn (by omega) hk⟩
     ·exact ⟨_, _, _, _, Iw (by simp; omega) rfl (by omega) (by omega), sw_EPn hB hBn hkv hu I hn hne (by omega) hk⟩
    ·rcases hP with rfl | hne
     ·exact ⟨_, _, _, _, Iw (by simp; omega) rfl (by omega) (by omega), sw_E0f hB hBn hkv hu I hn (by omega) hk⟩
     ·exact ⟨_, _, _, _, Iw (by simp; omega) rfl (by omega) (by omega), sw_EPf hB hBn hkv hu I hn hne (by omega) hk⟩
  ·obtain ⟨m, hm0, hm6, hm, hml⟩ : ∃ m : Nat, 0 < m ∧ m ≤ 600 ∧ (if (600 : Int) < (lb : Int) then 600 else (lb : Int)) = (m : Int) ∧ m ≤ lb := by
    by_cases h : 600 < lb
    ·exact ⟨600, by omega, by omega, by rw [if_pos (by omega)]; rfl, by omega⟩
    ·exact ⟨lb, by omega, by omega, by rw [if_neg (by omega)], by omega⟩
   have hmc : m ≤ cb := by omega
   have b1 : (List.take m bs).all isByte = true := all_take_of hu.bytes m
   have hmb : (List.take m bs).length = m := by rw [List.length_take]; omega
   cases off with
   | true => exact .same I hn (sw_SOff hB hBn hkv hu hm hmc hcb hm0 hm6 I hk)
   | false =>
    by_cases h1 : at0 < 0
    ·exact .same I hn (sw_SAt hB hBn hkv hu hm hmc hcb hm0 hm6 I h1 hk)
    by_cases h2 : (z : Int) < at0
    ·exact .same I hn (sw_SAt2 hB hBn hkv hu hm hmc hcb hm0 hm6 I h2 hk)
    by_cases h3 : (z : Int) - at0 < (m : Int)
    ·exact .same I hn (sw_SLen hB hBn hkv hu hm hmc hcb hm0 hm6 I (by omega) (by omega) h3 hk)
    obtain ⟨A, rfl⟩ := Int.eq_ofNat_of_zero_le (by omega : 0 ≤ at0)
    rcases hfu with rfl | rfl | ⟨F, rfl⟩
    ·exact .same I1 hn (sw_SFuse hB hBn hkv hu hm hmc hcb hm0 hm6 I (by omega) hk)
    ·rcases hP with rfl | hne
     ·exact ⟨_, _, _, _, Iw (by rw [hmb]; omega) b1 (by omega) (by omega), sw_S0n hB hBn hkv hu hm hmc hcb hm0 hm6 I hn (by omega) hk⟩
     ·exact ⟨_, _, _, _, Iw (by rw [hmb]; omega) b1 (by omega) (by omega), sw_SPn hB hBn hkv hu hm hmc hcb hm0 hm6 I hn hne (by omega) hk⟩
    ·rcases hP with rfl | hne
     ·exact ⟨_, _, _, _, Iw (by rw [hmb]; omega) b1 (by omega) (by omega), sw_S0f hB hBn hkv hu hm hmc hcb hm0 hm6 I hn (by omega) hk⟩
     ·exact ⟨_, _, _, _, Iw (by rw [hmb]; omega) b1 (by omega) (by omega), sw_SPf hB hBn hkv hu hm hmc hcb hm0 hm6 I hn hne (by omega) hk⟩
theorem step_read (hk : Int.tmod kd (OfNat.ofNat 8) = 1) : Step n B0 (tArgs kd at0 n0 bv kv) z (kSt B0 P z las fu off) := by
 have hbv := T.bv
 have hkv := T.kv
 have hP : P = [] ∨ P ≠ [] := by cases P <;> simp
 cases off with
 | true => exact .same I hn (st_rdOff hB hBn I hbv hkv hk)
 | false =>
  by_cases h1 : at0 < 0
  ·exact .same I hn (st_rdAt hB hBn I hbv hkv hk h1)
  by_cases h2 : (z : Int) < at0
  ·by_cases h3 : n0 < 0
   ·exact .same I hn (st_rdAt2n hB hBn I hbv hkv hk h2 h3)
   ·exact .same I hn (st_rdAt2 hB hBn I hbv hkv hk h2 (by omega))
  by_cases h3 : n0 < 0
  ·exact .same I hn (st_rdN hB hBn I hbv hkv hk (by omega) (by omega) h3)
  by_cases h4 : (z : Int) - at0 < n0
  ·exact .same I hn (st_rdN2 hB hBn I hbv hkv hk (by omega) (by omega) h4)
  obtain ⟨A, rfl⟩ := Int.eq_ofNat_of_zero_le (by omega : 0 ≤ at0)
  obtain ⟨M, rfl⟩ := Int.eq_ofNat_of_zero_le (by omega : 0 ≤ n0)
  by_cases hM : M = 0
  ·subst hM
   rcases hP with rfl | hne
   ·exact .same I hn (st_rd0z hB hBn hbv hkv I (by omega) hk)
   ·exact .same I hn (st_rdPz hB hBn hbv hkv I hne (by omega) hk)
  ·rcases hP with rfl | hne
   ·exact .same I hn (st_rd0 hB hBn hbv hkv I (by omega) (by omega) hk)
   ·exact .same I hn (st_rdP hB hBn hbv hkv I hne (by omega) (by omega) hk)
theorem step_flip (hk : Int.tmod kd (OfNat.ofNat 8) = 6) : Step n B0 (tArgs kd at0 n0 bv kv) z (kSt B0 P z las fu off) := by
 have hbv := T.bv
 have hkv := T.kv
 have hlo := T.alo
 have hhi := T.ahi
 have If : ∀ A M, DInv n P z (flipL las A M) fu := fun A M => ⟨I.many, I.n40, I.size, I.pos, I.fits, by unfold flipL; rw [List.length_set]; exact I.len, flipL_bytes I.bytes A M, I.lo, I.hi⟩
 have hP : P = [] ∨ P ≠ [] := by cases P <;> simp
 rcases hP with rfl | hne
 ·by_cases h1 : at0 < 0
  ·exact .same I hn (st_fl0At hB hBn hbv hkv I hk h1)
  by_cases h2 : (z : Int) ≤ at0
  ·exact .same I hn (st_fl0At2 hB hBn hbv hkv I hk h2)
  by_cases h3 : n0 < 0
  ·exact .same I hn (st_fl0N hB hBn hbv hkv I hk (by omega) (by omega) h3)
  by_cases h4 : 7 < n0
  ·exact .same I hn (st_fl0N2 hB hBn hbv hkv I hk (by omega) (by omega) h4)
  obtain ⟨A, rfl⟩ := Int.eq_ofNat_of_zero_le (by omega : 0 ≤ at0)
  obtain ⟨M, rfl⟩ := Int.eq_ofNat_of_zero_le (by omega : 0 ≤ n0)
  exact .same (If A M) hn (st_fl0 hB hBn hbv hkv I (by omega) (by omega) hk)
 ·cases hc : covers at0 P with
  | true => exact .same I hn (st_flC hB hBn I hbv hkv hne hlo hhi hk hc)
  | false =>
   by_cases h1 : at0 < 0
   ·exact .same I hn (st_flPAt hB hBn I hbv hkv hne hlo hhi hk hc h1)
   by_cases h2 : (z : Int) ≤ at0
   ·exact .same I hn (st_flPAt2 hB hBn I hbv hkv hne hlo hhi hk hc h2)
   by_cases h3 : n0 < 0
   ·exact .same I hn (st_flPN hB hBn I hbv hkv hne hlo hhi hk hc (by omega) (by omega) h3)
   by_cases h4 : 7 < n0
   ·exact .same I hn (st_flPN2 hB hBn I hbv hkv hne hlo hhi hk hc (by omega) (by omega) h4)
   obtain ⟨A, rfl⟩ := Int.eq_ofNat_of_zero_le (by omega : 0 ≤ at0)
   obtain ⟨M, rfl⟩ := Int.eq_ofNat_of_zero_le (by omega : 0 ≤ n0)
   exact .same (If A M) hn (st_flP hB hBn I hbv hkv hne (by omega) (by omega) hk hc)
theorem turn_step : Step n B0 (tArgs kd at0 n0 bv kv) z (kSt B0 P z las fu off) := by
 have hbv := T.bv
 have hkv := T.kv
 have hP : P = [] ∨ P ≠ [] := by cases P <;> simp
 have hk : Int.tmod kd (OfNat.ofNat 8) = kd % 8 := Int.tmod_eq_emod_of_nonneg T.kd0
 have hm : kd % 8 = 0 ∨ kd % 8 = 1 ∨ kd % 8 = 2 ∨ kd % 8 = 3 ∨ kd % 8 = 4 ∨ kd % 8 = 5 ∨ kd % 8 = 6 ∨ kd % 8 = 7 := by omega
 have In : ∀ {las' : List Value} {fu' : Int}, las'.length = z → las'.all isByte = true → -1 ≤ fu' → fu' < 2 ^ 63 → DInv n [] z las' fu' := fun h1 h2 h3 h4 => ⟨Nat.zero_le _, I.n40, I.size, I.pos, (fun p hp => by cases hp), h1, h2, h3, h4⟩
 rcases hm with h | h | h | h | h | h | h | h <;> rw [h] at hk
 ·exact step_write hB hBn hn T I hk
 ·exact step_read hB hBn hn T I hk
 ·cases off with
  | true => exact .same I hn (st_syOff hB hBn I hbv hkv hk)
  | false =>
   rcases hP with rfl | hne
   ·exact .same I hn (st_sy0 hB hBn I hbv hkv hk)
   ·exact .same (In (now_len I) (now_bytes I) I.lo I.hi) hn (st_syP hB hBn I hne hbv hkv hk)
 ·cases off with
  | true => exact .same I hn (st_fuOff hB hBn I hbv hkv hk)
  | false =>
   by_cases h1 : n0 < 0
   ·exact .same I hn (st_fuN hB hBn I hbv hkv hk h1)
   ·exact .same (⟨I.many, I.n40, I.size, I.pos, I.fits, I.len, I.bytes, by omega, T.nhi⟩ : DInv n P z las n0) hn (st_fu hB hBn I hbv hkv hk (by omega) T.nhi)
 ·rcases hP with rfl | hne
  ·exact .same (In I.len I.bytes (by omega) (by omega)) hn (st_lo0 hB hBn I hbv hkv hk)
  ·rcases T.k with rfl | ⟨u, lk, kc, ks, rfl, hu, hru, hks, hlk⟩
   ·exact .same (In (loseP_length P 0 las I.fits I.len) (loseP_bytes P 0 las I.fits I.bytes) (by omega) (by omega)) hn (st_loN hB hBn I hbv hne hk)
   ·exact .same (In (loseP_length P 0 las I.fits I.len) (loseP_bytes P 0 las I.fits I.bytes) (by omega) (by omega)) hn (st_loK hB hBn I hne hbv hu hru hks hlk hk)
 ·exact .same (In I.len I.bytes (by omega) (by omega)) hn (st_po hB hBn I hbv hkv hk)
 ·exact step_flip hB hBn hn T I hk
 ·rcases hP with rfl | hne
  ·exact .same I hn (st_co0 hB hBn I hbv hkv hk)
  ·exact .same I hn (st_coP hB hBn I hne hbv hkv hk)
end
def vl {α : Type} : PT α → Option α
 | .node _ v _ => v
 | .leaf => none
def pin : Nat → Nat → Ent → PT Ent → PT Ent
 | 0, _, _, t => t
 | k + 1, i, e, t => if i = 0 then .node (lf t) (some e) (rt t) else if i % 2 = 1 then .node (pin k (i / 2) e (lf t)) (vl t) (rt t) else .node (lf t) (vl t) (pin k (i / 2 - 1) e (rt t))
theorem get_split (t : PT Ent) (j : Nat) : t.get j = if j = 0 then vl t else if j % 2 = 1 then (lf t).get (j / 2) else (rt t).get (j / 2 - 1) := by
 cases t with
 | leaf => simp [PT.get, vl, lf, rt]
 | node l v r => rfl
theorem get_pin : ∀ (k i : Nat) (e : Ent) (t : PT Ent) (j : Nat), i + 1 < 2 ^ k → (pin k i e t).get j = if j = i then some e else t.get j
 | 0, i, e, t, j, h => by simp at h
 | k + 1, i, e, t, j, h => by
  rw [Nat.pow_succ] at h
  unfold pin
  split
  ·rename_i h0
   subst h0
   rw [get_split t j]
   simp only [PT.get]
   by_cases hj : j = 0
   ·rw [if_pos hj, if_pos hj]
   ·rw [if_neg hj, if_neg hj, if_neg hj]
  ·split
   ·rename_i h0 h1
    simp only [PT.get]
    rw [get_pin k (i / 2) e (lf t) (j / 2) (by omega), get_split t j]
    by_cases hj : j = 0
    ·rw [if_pos hj, if_neg (by omega), if_pos hj]
    ·rw [if_neg hj, if_neg hj]
     by_cases hm : j % 2 = 1
     ·rw [if_pos hm, if_pos hm]
      by_cases hji : j = i
      ·rw [if_pos (by omega), if_pos hji]
      ·rw [if_neg (by omega), if_neg hji]
     ·rw [if_neg hm, if_neg hm, if_neg (by omega)]
   ·rename_i h0 h1
    simp only [PT.get]
    rw [get_pin k (i / 2 - 1) e (rt t) (j / 2 - 1) (by omega), get_split t j]
    by_cases hj : j = 0
    ·rw [if_pos hj, if_neg (by omega), if_pos hj]
    ·rw [if_neg hj, if_neg hj]
     by_cases hm : j % 2 = 1
     ·rw [if_pos hm, if_pos hm, if_neg (by omega)]
     ·rw [if_neg hm, if_neg hm]
      by_cases hji : j = i
      ·rw [if_pos (by omega), if_pos hji]
      ·rw [if_neg (by omega), if_neg hji]
def pinS (S : St) (i : Nat) (e : Ent) : St := { heap := pin 20 i e S.heap, next := S.next, glob := S.glob }
theorem pinS_get {S : St} {i j : Nat} {e : Ent} (hi : i < 1000000) (h : S.heap.get i = some e) : (pinS S i e).heap.get j = S.heap.get j := by
 show (pin 20 i e S.heap).get j = _
 rw [get_pin 20 i e S.heap j (by omega)]
 split
 ·rename_i hj; rw [hj, h]
 ·rfl
theorem pinS_less {S : St} {i : Nat} {e : Ent} (hi : i < 1000000) (h : S.heap.get i = some e) : Less (pinS S i e) S := ⟨fun j x hx => by rw [pinS_get hi h] at hx; exact hx, Nat.le_refl _, rfl⟩
theorem pinS_more {S : St} {i : Nat} {e : Ent} (hi : i < 1000000) (h : S.heap.get i = some e) : Less S (pinS S i e) := ⟨fun j x hx => by rw [pinS_get hi h]; exact hx, Nat.le_refl _, rfl⟩
theorem CallsTo.pin {f : FuncId} {args : List Value} {S S' : St} {v : Value} {i j : Nat} {e x : Ent} (h : CallsTo f args S v S') (hi : i < 1000000) (he : S.heap.get i = some e) (hj : j < 1000000) (hx : S'.heap.get j = some x) : CallsTo f args (pinS S i e) v (pinS S' j x) :=
 fun α w args' hr ha => by
  have n0 := (Next.refl hr).less (pinS_more hi he)
  exact (h α w args' n0.rel ha).mono fun e' w' ⟨β, v', h1, h2, h3⟩ => ⟨β, v', h1, (n0.trans h2).less (pinS_less hj hx), h3⟩
noncomputable def turnF (S' : St) (args : List Value) (S : St) : Y (Value × St) := .req (holds (CallsTo 7 args S (.bool true) S')) (.pure (.bool true, S'))
noncomputable def orcT (S' : St) : Orc := fun f => if f = 7 then some (turnF S') else none
noncomputable def ycT (S' : St) : YCall := ygo Tryz.prog okN (orcT S') kp 100
theorem okOrcT (S' : St) : OrcSound Tryz.prog (orcT S') := fun f F h => by
 unfold orcT at h
 split at h
 ·rename_i hf; subst hf; cases h
  intro args S v S1 hx α w args' hr ha
  simp only [turnF, Y.req_is, Y.pure_is, Prod.mk.injEq] at hx
  obtain ⟨h1, rfl, rfl⟩ := hx
  unfold holds at h1
  exact (@of_decide_eq_true _ (Classical.propDecidable _) h1) α w args' hr ha
 ·cases h
theorem yxT (S' : St) : YX (ycT S') (xgoO Tryz.prog okN (orcT S') kp 100) := ygo_is (orcT S') kp 100
theorem callT (S' : St) : CallSound Tryz.prog (xgoO Tryz.prog okN (orcT S') kp 100) := xgoO_sound mixed okN_ok okN_good (okOrcT S') kp 100
def r2 (t : PT Ent) : PT Ent := .node .leaf none t
def seedU (U : PT Ent) : PT Ent := .node (r2 (r2 (r2 (r2 (r2 (r2 (r2 (r2 (r2 U))))))))) none .leaf
noncomputable def aliveG (args : List Value) (S : St) : Y (Value × St) := .req (holds (CallsTo 8 args S (.bool true) S)) (.pure (.bool true, S))
noncomputable def orcV : Orc := fun f => if f = 8 then some aliveG else none
noncomputable def ycV : YCall := ygo Tryz.prog okN orcV kp 100
theorem okOrcV : OrcSound Tryz.prog orcV := fun f F h => by
 unfold orcV at h
 split at h
 ·rename_i hf; subst hf; cases h
  intro args S v S1 hx α w args' hr ha
  simp only [aliveG, Y.req_is, Y.pure_is, Prod.mk.injEq] at hx
  obtain ⟨h1, rfl, rfl⟩ := hx
  unfold holds at h1
  exact (@of_decide_eq_true _ (Classical.propDecidable _) h1) α w args' hr ha
 ·cases h
theorem yxV : YX ycV (xgoO Tryz.prog okN orcV kp 100) := ygo_is orcV kp 100
theorem callV : CallSound Tryz.prog (xgoO Tryz.prog okN orcV kp 100) := xgoO_sound mixed okN_ok okN_good okOrcV kp 100
def pinO : Nat → Nat → Option Ent → PT Ent → PT Ent
 | 0, _, _, t => t
 | k + 1, i, e, t => if i = 0 then .node (lf t) e (rt t) else if i % 2 = 1 then .node (pinO k (i / 2) e (lf t)) (vl t) (rt t) else .node (lf t) (vl t) (pinO k (i / 2 - 1) e (rt t))
def pinL (t : PT Ent) : List (Nat × Option Ent) → PT Ent
 | [] => t
 | p :: r => pinO 18 p.1 p.2 (pinL t r)
theorem get_pinO : ∀ (k i : Nat) (e : Option Ent) (t : PT Ent) (j : Nat), t.get i = e → (pinO k i e t).get j = t.get j
 | 0, i, e, t, j, h => rfl
 | k + 1, i, e, t, j, h => by
  rw [get_split t i] at h
  unfold pinO
  split
  ·rename_i h0
   subst h0
   rw [if_pos rfl] at h
   rw [get_split t j, h]
   rfl
  ·rename_i h0
   rw [if_neg h0] at h
   split
   ·rename_i h1
    rw [if_pos h1] at h
    rw [get_split t j, ← get_pinO k (i / 2) e (lf t) (j / 2) h]
    rfl
   ·rename_i h1
    rw [if_neg h1] at h
    rw [get_split t j, ← get_pinO k (i / 2 - 1) e (rt t) (j / 2 - 1) h]
    rfl
theorem get_pinL : ∀ (l : List (Nat × Option Ent)) (t : PT Ent) (j : Nat), (∀ p, p ∈ l → t.get p.1 = p.2) → (pinL t l).get j = t.get j
 | [], t, j, h => rfl
 | p :: r, t, j, h => by
  have hr := fun j => get_pinL r t j (fun x hx => h x (by simp [hx]))
  show (pinO 18 p.1 p.2 (pinL t r)).get j = _
  rw [get_pinO 18 p.1 p.2 _ j (by rw [hr]; exact h p (by simp)), hr]
def endOf (x : YOut) : St := match x with
 | some (_, ((_, _, S), _)) => S
 | none => ⟨.leaf, 0, 0⟩
def endPins (g0 g1 : Ent) (z : Nat) (now las : List Value) (fu : Int) (off on : Bool) (w1 w2 : Value) : List (Nat × Option Ent) :=
 [(0, some g0), (1, some g1), (100003, some (.row [.pointer (some ⟨100004, 0, none⟩)] 0 false)), (100004, some (dRow z 0 w1 fu off)), (100005, some (.row now 1 false)), (100006, some (.row las 1 false)), (100008, some (rRow z w2 on fu)), (100009, some (.row las 1 false))] ++ (List.range 40).map fun i => (200000 + i, none)
def endS (K : St) (l : List (Nat × Option Ent)) : St := { heap := pinL K.heap l, next := 200000, glob := K.glob }
theorem cdX (K : St) (ta : Option Addr) (lt ct i : Nat) : ycode Tryz.prog okN ycZ (kp 3) 100 (sub (codeOf Tryz.prog 3) [1,1,1,1,0,1,0,0]) (slZ 91 [(1, .slice ta lt ct), (5, .pointer (ad 100003)), (7, .pointer (ad 100008)), (9, .int .i64 (i : Int))]) K (bits 11 31) = (let x0 := !decide ((i : Int) < (lt : Int)); some (tn 3 (rp 2 x0 (tn 3 x0)), ((XE.exit 0, (slZ 91 [(1, Value.slice ta lt ct), (5, Value.pointer (ad 100003)), (7, Value.pointer (ad 100008)), (9, Value.int .i64 i), (45, Value.bool false)]), K), []))) := by kernel_rfl
theorem cdX40 (K : St) (ta : Option Addr) (lt ct i : Nat) : ycode Tryz.prog okN ycZ (kp 3) 100 (sub (codeOf Tryz.prog 3) [1,1,1,1,0,1,0,0]) (slZ 91 [(1, .slice ta lt ct), (5, .pointer (ad 100003)), (7, .pointer (ad 100008)), (9, .int .i64 (i : Int))]) K (bits 11 479) = (let x0 := decide ((i : Int) < (lt : Int)); some (tn 1 (tn 1 (rp 2 x0 (tn 3 x0)) && tn 1 (!decide ((i : Int) < 40))), ((XE.exit 0, (slZ 91 [(1, Value.slice ta lt ct), (5, Value.pointer (ad 100003)), (7, Value.pointer (ad 100008)), (9, Value.int .i64 i), (45, Value.bool (decide ((i : Int) < 40)))]), K), []))) := by kernel_rfl
theorem cdR (K S1 : St) (lt ct i d : Nat) (ts : List Value) (kd at0 n0 : Int) (bv kv : Value) : hcode Tryz.prog okN (ycT (pinS S1 100003 (.row [.pointer (ad d)] 0 false))) (kp 3) [(52, tTurn kd at0 n0 bv kv)] 100 (sub (codeOf Tryz.prog 3) [1,1,1,1,0,1,0,0]) (slZ 91 [(1, .slice (ad 2) lt ct), (5, .pointer (ad 100003)), (7, .pointer (ad 100008)), (9, .int .i64 (i : Int))]) (pinS K 2 (.row ts 5 true)) (bits 16 7647) = (let x0 := decide ((i : Int) < (lt : Int)); some (tn 1 (rp 2 x0 (tn 3 x0)) && tn 1 (decide ((i : Int) < 40)) && tn 4 (tn 2 (decide (0 ≤ (i : Int)) && tn 1 x0) && (tn 4 (decide (0 + i * 5 + 5 ≤ List.length ts)) && (tn 1 (same (Value.agg (List.toArray (List.take 5 (List.drop (0 + i * 5) ts)))) (tTurn kd at0 n0 bv kv)) && tn 3 (holds (CallsTo (OfNat.ofNat 7) ([] ++ [Value.pointer (ad 100003), Value.pointer (ad 100008), tTurn kd at0 n0 bv kv] ++ []) (pinS K 2 (Ent.row ts 5 true)) (Value.bool true) (pinS S1 100003 (Ent.row [Value.pointer (ad d)] 0 false))))))), ((XE.normal, (slZ 91 [(1, Value.slice (ad 2) lt ct), (5, Value.pointer (ad 100003)), (7, Value.pointer (ad 100008)), (9, Value.int .i64 (IntKind.wrap .i64 ((i : Int) + 1)))]), (pinS S1 100003 (.row [.pointer (ad d)] 0 false))), []))) := by kernel_rfl
theorem cdI (K : St) (ta : Option Addr) (lt ct : Nat) : ycode Tryz.prog okN ycZ (kp 3) 100 (sub (codeOf Tryz.prog 3) [1,1,1,1,0,0]) (slZ 91 [(1, .slice ta lt ct), (5, .pointer (ad 100003)), (7, .pointer (ad 100008))]) K [] = (some (true, ((XE.normal, (slZ 91 [(1, Value.slice ta lt ct), (5, Value.pointer (ad 100003)), (7, Value.pointer (ad 100008)), (9, Value.int .i64 0)]), K), []))) := by kernel_rfl
noncomputable abbrev cdL : Code := sub (codeOf Tryz.prog 3) [1,1,1,1,0,1,0,0]
theorem cdGoodL : goodCode cdL = true := by kernel_rfl
def slLp (ta : Option Addr) (lt ct i : Nat) : XAct := slZ 91 [(1, .slice ta lt ct), (5, .pointer (some ⟨100003, 0, none⟩)), (7, .pointer (some ⟨100008, 0, none⟩)), (9, .int .i64 (i : Int))]
def slCd : XAct := slZ 91 [(5, .pointer (some ⟨100003, 0, none⟩)), (7, .pointer (some ⟨100008, 0, none⟩))]
theorem flat5 {kd at0 n0 : Int} {bv kv : Value} (hb : ArgV bv) (hk : ArgV kv) : flatV (tTurn kd at0 n0 bv kv) = true := by
 rcases hb with rfl | ⟨u, l, c, rfl, _⟩ <;> rcases hk with rfl | ⟨u', l', c', rfl, _⟩ <;> rfl
theorem slZ_of {n : Nat} {l : List (Nat × Value)} {i : Nat} {v : Value} (h : slot (slZ n l) i = some v) : (i, v) ∈ l := slot_slZ h
structure TurnsIn (B0 : St) (ta : Option Addr) (lt : Nat) (ts : List Value) : Prop where
 at_ : 0 < lt → ta = some ⟨2, 0, none⟩ ∧ B0.heap.get 2 = some (.row ts 5 true)
 len : ∀ i, i < lt → i < 40 → i * 5 + 5 ≤ ts.length
 each : ∀ i, i < lt → i < 40 → ∃ kd at0 n0 bv kv, List.take 5 (List.drop (i * 5) ts) = [.int .u8 kd, .int .i64 at0, .int .i64 n0, bv, kv] ∧ TurnIn B0 kd at0 n0 bv kv
section
variable {P : Pend} {z : Nat} {las : List Value} {fu : Int} {off : Bool} {B0 : St} {ta : Option Addr} {lt ct i : Nat} {ts : List Value}
variable (hB : LowSt B0) (hBn : B0.next = 100003) (T : TurnsIn B0 ta lt ts)
include hB hBn T
theorem cd_round (I : DInv i P z las fu) (hi : i < lt) (h40 : i < 40) : ∃ P' las' fu' off', DInv (i + 1) P' z las' fu' ∧ SB Tryz.prog B0 cdL (slLp ta lt ct i) (kSt B0 P z las fu off) .normal (slLp ta lt ct (i + 1)) (kSt B0 P' z las' fu' off') := by
 obtain ⟨rfl, h2⟩ := T.at_ (by omega)
 obtain ⟨kd, at0, n0, bv, kv, he, Ti⟩ := T.each i hi h40
 obtain ⟨P', las', fu', off', I', ⟨S', d, π, hc, h3, hn, hp3, hp8⟩⟩ := turn_step (off := off) hB hBn h40 Ti I
 refine ⟨P', las', fu', off', I', ?_⟩
 have hk2 : (kSt B0 P z las fu off).heap.get 2 = some (.row ts 5 true) := by rw [k_old (by decide)]; exact h2
 have hlen := T.len i hi h40
 have h := cdR (kSt B0 P z las fu off) S' lt ct i d ts kd at0 n0 bv kv
 have e1 : IntKind.wrap .i64 ((i : Int) + 1) = ((i + 1 : Nat) : Int) := wrapAdd (b := 1) (by omega)
 simp only [e1, Nat.zero_add] at h
 have f1 : decide ((i : Int) < (lt : Int)) = true := decide_eq_true (by omega)
 have f2 : decide ((i : Int) < 40) = true := decide_eq_true (by omega)
 have f3 : decide (0 ≤ (i : Int)) = true := decide_eq_true (by omega)
 have f4 : decide (i * 5 + 5 ≤ ts.length) = true := decide_eq_true (by omega)
 have f5 : same (Value.agg (List.toArray (List.take 5 (List.drop (i * 5) ts)))) (tTurn kd at0 n0 bv kv) = true := by
  rw [he]; exact same_of (flat5 Ti.bv Ti.kv)
 have sr := SR.of mixed okN_ok (callT _) cdGoodL (Runs.hpath (yxT _) h (by
  simp only [f1, f2, f3, f4, f5]
  rw [holds_of (p := CallsTo _ _ _ _ _)]
  ·rfl
  ·exact hc.pin (by decide) hk2 (by decide) h3))
 have m1 : Moves B0 (slLp (some ⟨2, 0, none⟩) lt ct i) (kSt B0 P z las fu off) (slLp (some ⟨2, 0, none⟩) lt ct i) (pinS (kSt B0 P z las fu off) 2 (.row ts 5 true)) := Moves.less (pinS_less (by decide) hk2) rfl (fun _ _ h => h)
 have m2 : Moves B0 (slLp (some ⟨2, 0, none⟩) lt ct (i + 1)) (pinS S' 100003 (.row [.pointer (some ⟨d, 0, none⟩)] 0 false)) (slLp (some ⟨2, 0, none⟩) lt ct (i + 1)) S' := Moves.less (pinS_more (by decide) h3) rfl (fun _ _ h => h)
 have m3 : Moves B0 (slLp (some ⟨2, 0, none⟩) lt ct (i + 1)) S' (slLp (some ⟨2, 0, none⟩) lt ct (i + 1)) (kSt B0 P' z las' fu' off') := Moves.named hn rfl (fun j v hv => by
  have hm := slZ_of hv
  simp only [List.mem_cons, List.not_mem_nil, or_false, Prod.mk.injEq] at hm
  refine ⟨v, hv, ?_⟩
  rcases hm with ⟨rfl, rfl⟩ | ⟨rfl, rfl⟩ | ⟨rfl, rfl⟩ | ⟨rfl, rfl⟩
  ·have := RenV.slice (π := π) 2 0 lt ct
   rw [hn.old 2 (by rw [hBn]; decide)] at this; exact this
  ·have := RenV.ptr (π := π) 100003 0
   rw [hp3] at this; exact this
  ·have := RenV.ptr (π := π) 100008 0
   rw [hp8] at this; exact this
  ·exact .int _ _)
 exact SB.pre m1 ((SB.of sr).moves (m2.trans m3))
theorem cd_exit (h : ¬ (i < lt ∧ i < 40)) (K : St) : SB Tryz.prog B0 cdL (slLp ta lt ct i) K (.exit 0) slCd K := by
 by_cases hi : i < lt
 ·have f1 : decide ((i : Int) < (lt : Int)) = true := decide_eq_true (by omega)
  have f2 : decide ((i : Int) < 40) = false := decide_eq_false (by omega)
  have hp := cdX40 K ta lt ct i
  refine (SB.of (SR.of mixed okN_ok callZ cdGoodL (Runs.path yxZ hp (by simp only [f1, f2]; rfl)))).moves (Moves.less ⟨fun _ _ h => h, Nat.le_refl _, rfl⟩ rfl (fun j v hv => ?_))
  have hm := slZ_of hv
  simp only [List.mem_cons, List.not_mem_nil, or_false, Prod.mk.injEq] at hm
  rcases hm with ⟨rfl, rfl⟩ | ⟨rfl, rfl⟩ <;> rfl
 ·have f1 : decide ((i : Int) < (lt : Int)) = false := decide_eq_false (by omega)
  have hp := cdX K ta lt ct i
  refine (SB.of (SR.of mixed okN_ok callZ cdGoodL (Runs.path yxZ hp (by simp only [f1]; rfl)))).moves (Moves.less ⟨fun _ _ h => h, Nat.le_refl _, rfl⟩ rfl (fun j v hv => ?_))
  have hm := slZ_of hv
  simp only [List.mem_cons, List.not_mem_nil, or_false, Prod.mk.injEq] at hm
  rcases hm with ⟨rfl, rfl⟩ | ⟨rfl, rfl⟩ <;> rfl
theorem cd_rounds : ∀ (r : Nat) {i : Nat} {P : Pend} {las : List Value} {fu : Int} {off : Bool}, DInv i P z las fu → 40 ≤ i + r →
 ∃ P' las' fu' off', DInv 40 P' z las' fu' ∧ SLB Tryz.prog B0 (r + 1) cdL (slLp ta lt ct i) (kSt B0 P z las fu off) (.exit 0) slCd (kSt B0 P' z las' fu' off')
 | 0, i, P, las, fu, off, I, hr => ⟨P, las, fu, off, I.mono I.n40 (Nat.le_refl _), SLB.exit (cd_exit hB hBn T (by omega) _)⟩
 | r + 1, i, P, las, fu, off, I, hr => by
  by_cases h : i < lt ∧ i < 40
  ·obtain ⟨P1, las1, fu1, off1, I1, hs⟩ := cd_round (ct := ct) (off := off) hB hBn T I h.1 h.2
   obtain ⟨P2, las2, fu2, off2, I2, hl⟩ := cd_rounds r (off := off1) I1 (by omega)
   exact ⟨P2, las2, fu2, off2, I2, SLB.step hs hl⟩
  ·exact ⟨P, las, fu, off, I.mono I.n40 (Nat.le_refl _), SLB.exit (cd_exit hB hBn T h _)⟩
end
theorem cdIn (U : PT Ent) (g0 g1 g2 : Ent) (n : Int) (tv : Value) : ycode Tryz.prog okN ycZ (kp 3) 100 (seqs [(sub (codeOf Tryz.prog 3) [0]), (sub (codeOf Tryz.prog 3) [1,0]), (sub (codeOf Tryz.prog 3) [1,1,0]), (sub (codeOf Tryz.prog 3) [1,1,1,0])]) (startX Tryz.f3 [.int .i64 n, tv]) { heap := putL (seedU U) [(0, g0), (1, g1), (2, g2)], next := 100003, glob := 1 } (bits 28 32627831) = (let x0 := IntKind.wrap .i64 (4096 + Int.tmod n (OfNat.ofNat 12000)); let x1 := decide (IntKind.wrap .i64 x0 = IntKind.wrap .i64 (4096 + Int.tmod n (OfNat.ofNat 12000))); let x2 := !decide (IntKind.wrap .i64 (4096 + Int.tmod n (OfNat.ofNat 12000)) < 4096); let x4 := decide (0 ≤ IntKind.wrap .i64 (4096 + Int.tmod n (OfNat.ofNat 12000))) && (decide (IntKind.wrap .i64 (4096 + Int.tmod n (OfNat.ofNat 12000)) ≤ IntKind.wrap .i64 (4096 + Int.tmod n (OfNat.ofNat 12000))) && tn 1 (decide (1 * Int.toNat x0 ≤ 281474976710656))); let x6 := tn 1 (!decide (1048576 < IntKind.wrap .i64 (4096 + Int.tmod n (OfNat.ofNat 12000)))); let x7 := decide (4096 ≤ n); let x8 := Int.toNat x0; let x3 := Value.agg (List.toArray (splice (splice (splice [Value.slice none 0 0, Value.slice none 0 0, Value.slice none 0 0, Value.int .i64 0, Value.bool false] 0 [Value.slice (ad 100004) x8 x8]) 1 [Value.slice (ad 100006) x8 x8]) 3 [Value.int .i64 (-1)])); let x5 := some (Ent.row (zerosL [Value.int .u8 0] x8) 1 false); let x9 := Value.int .i64 x0; let x10 := ch 12 2154 (ln x5); let x11 := tn 1 (decide (n ≤ 1048576)); some (tn 1 (tn 2 (tn 1 (rp 2 x7 (tn 3 x7)) && x11) && tn 2 (tn 1 (rp 2 x2 (tn 3 x2)) && x6 && tn 2 (tn 1 (x1 && (x1 && x4)) && tn 2 (x1 && (x1 && x4)) && tn 1 (rp 2 (same x9 x9) (tn 2 (same x3 x3)))))) && tn 2 (tn 2 (tn 1 (rp 2 x7 (tn 3 x7)) && x11) && tn 2 (tn 1 (rp 2 x2 (tn 3 x2)) && x6 && tn 5 (x1 && (x1 && (decide (0 ≤ IntKind.wrap .i64 (4096 + Int.tmod n (OfNat.ofNat 12000))) && (decide (IntKind.wrap .i64 (4096 + Int.tmod n (OfNat.ofNat 12000)) ≤ IntKind.wrap .i64 (4096 + Int.tmod n (OfNat.ofNat 12000))) && (decide (1 * Int.toNat x0 ≤ 281474976710656) && tn 2 (List.all (zerosL [Value.int .u8 0] x8) one)))))))), ((XE.normal, (slZ 91 [(1, tv), (5, Value.pointer (ad 100012)), (7, Value.pointer (ad 100014)), (33, Value.bool false)]), ⟨(.node (.node (ch 14 8619 (lr [Value.slice (ad 100004) x8 x8, Value.slice (ad 100006) x8 x8, Value.slice none 0 0, Value.int .i64 (-1), Value.bool false] 0 false)) (some g1) (ch 2 3 (nd (ch 11 1077 (ln x5)) (ch 5 31 U)))) (some g0) (.node (ri (nd x10 (ch 12 2154 (lr [Value.pointer (ad 100011)] 0 false)))) (some g2) (ri (nd x10 (ch 12 2154 (lr [Value.slice (ad 100013) x8 x8, Value.slice none 0 0, Value.bool true, Value.int .i64 (-1)] 0 false)))))), 100015, 1⟩), []))) := by kernel_rfl
noncomputable def cdLowY (U : PT Ent) (g0 g1 g2 : Ent) (n : Int) (tv : Value) : YOut := ycode Tryz.prog okN ycV (kp 3) 100 (codeOf Tryz.prog 3) (startX Tryz.f3 [.int .i64 n, tv]) { heap := putL (seedU U) [(0, g0), (1, g1), (2, g2)], next := 100003, glob := 1 } (bits 40 549788975744)
theorem cdLow (U : PT Ent) (g0 g1 g2 : Ent) (n : Int) (tv : Value) : cdLowY U  g0 g1 g2  n  tv  = (let x0 := tn 5 (rp 2 (decide (n < 4096)) (tn 3 (decide (n < 4096)))); let x1 := !decide (4096 ≤ n); let x2 := Ent.row (List.set [Value.pointer none] 0 (Value.pointer none)) 0 false; let x3 := Ent.row [Value.pointer none] 0 false; some (tn 1 (tn 4 (rp 2 x1 (tn 3 x1)) && x0) && (tn 1 (tn 4 (rp 2 x1 (tn 3 x1)) && x0) && (tn 7 (decide (0 < 1)) && tn 6 (holds (CallsTo (OfNat.ofNat 8) ([] ++ [] ++ []) (St.put (St.new { heap := putL (seedU U) [(0, g0), (1, g1), (2, g2)], next := 100003, glob := 1 : St } x3) 100003 x2) (Value.bool true) (St.put (St.new { heap := putL (seedU U) [(0, g0), (1, g1), (2, g2)], next := 100003, glob := 1 : St } x3) 100003 x2))))), ((XE.ret, (slZ 91 [(4, Value.bool true)]), endOf (cdLowY U  g0 g1 g2  n  tv )), []))) := by kernel_rfl
noncomputable def cdHighY (U : PT Ent) (g0 g1 g2 : Ent) (n : Int) (tv : Value) : YOut := ycode Tryz.prog okN ycV (kp 3) 100 (codeOf Tryz.prog 3) (startX Tryz.f3 [.int .i64 n, tv]) { heap := putL (seedU U) [(0, g0), (1, g1), (2, g2)], next := 100003, glob := 1 } (bits 40 549788950119)
theorem cdHigh (U : PT Ent) (g0 g1 g2 : Ent) (n : Int) (tv : Value) : cdHighY U  g0 g1 g2  n  tv  = (let x0 := tn 3 (tn 1 (rp 2 (!decide (n < 4096)) (tn 3 (!decide (n < 4096)))) && tn 1 (decide (1048576 < n))); let x1 := decide (4096 ≤ n); let x2 := Ent.row (List.set [Value.pointer none] 0 (Value.pointer none)) 0 false; let x3 := Ent.row [Value.pointer none] 0 false; let x4 := tn 1 (!decide (n ≤ 1048576)); some (tn 1 (tn 2 (tn 1 (rp 2 x1 (tn 3 x1)) && x4) && x0) && (tn 1 (tn 2 (tn 1 (rp 2 x1 (tn 3 x1)) && x4) && x0) && (tn 7 (decide (0 < 1)) && tn 6 (holds (CallsTo (OfNat.ofNat 8) ([] ++ [] ++ []) (St.put (St.new { heap := putL (seedU U) [(0, g0), (1, g1), (2, g2)], next := 100003, glob := 1 : St } x3) 100003 x2) (Value.bool true) (St.put (St.new { heap := putL (seedU U) [(0, g0), (1, g1), (2, g2)], next := 100003, glob := 1 : St } x3) 100003 x2))))), ((XE.ret, (slZ 91 [(4, Value.bool true)]), endOf (cdHighY U  g0 g1 g2  n  tv )), []))) := by kernel_rfl
noncomputable def cdEndY (K : St) (g0 g1 : Ent) (z : Nat) (now las : List Value) (fu : Int) (off on : Bool) (w1 w2 : Value) : YOut := ycode Tryz.prog okN ycV (kp 3) 100 (sub (codeOf Tryz.prog 3) [1,1,1,1,1]) (slZ 91 [(5, .pointer (some ⟨100003, 0, none⟩)), (7, .pointer (some ⟨100008, 0, none⟩))]) (endS K (endPins g0 g1 z now las fu off on w1 w2)) [false, true, true, true, true, true, true, true, false, false, false, false, true, true, true, true, true, true, true, false, false, false, false, true, true, true, true, true, true, true, false, false, true, true, false, false, true, true, true, true, true, true, true, true, true, false, false, false, false, false, false, true, true, false, false, true, true, true, true, true, false, false, true, true, false, true, true, false]
theorem cdEnd (K : St) (g0 g1 : Ent) (z : Nat) (now las : List Value) (fu : Int) (off on : Bool) (w1 w2 : Value) : cdEndY K g0 g1 z now las fu off on w1 w2 = (let x3 := [Value.slice (ad 100005) z z, Value.slice (ad 100006) z z, w1, Value.int .i64 fu, Value.bool off]; let x5 := bytesOf (List.take z (List.drop 0 las)); let x8 := !decide ((z : Int) < 0); let x10 := List.set [Value.slice (ad 100009) z z, w2, Value.bool on, Value.int .i64 fu] 1 (Value.slice none 0 0); let x11 := tn 1 (decide (0 + z ≤ List.length las)) && tn 1 (List.all (List.take z (List.drop 0 las)) (isInt IntKind.u8)); let x16 := List.take (z * 1) (List.drop 0 las); let x19 := Value.string { data := List.toArray x5 : ByteArray }; let x20 := IntKind.wrap .i64 (0 + (z : Int)); let x1 := Int.toNat x20 - 0; let x6 := List.take 0 (List.drop 0 (zerosL [Value.int .u8 0] 0)) ++ List.take (x1 * 1) (List.drop 0 (splice now 0 x16)); let x0 := List.take (0 + x1) (List.drop 0 x6); let x7 := Value.slice (ad 200022) (0 + x1) (0 + x1); let x9 := Value.bool (beqBytes (bytesOf x0) x5); let x12 := tn 1 (decide (0 + (0 + x1) ≤ List.length x6)) && tn 1 (List.all x0 (isInt IntKind.u8)); let x13 := Value.tuple #[Value.slice (ad 200022) (0 + x1) (0 + x1), Value.int .i64 0]; let x17 := Value.string { data := List.toArray (bytesOf x0) : ByteArray }; let x21 := List.set x3 2 (Value.slice none 0 0); let x4 := List.set (List.set x21 4 (Value.bool false)) 3 (Value.int .i64 (-1)); let x15 := decide (0 < List.length x4); let x22 := Value.bool true; let x2 := List.set (List.set x10 2 x22) 3 (Value.int .i64 (-1)); let x14 := decide (0 < List.length x2); let x18 := List.getD x2 0 undefX; some (tn 3 (tn 1 (!!decide (0 < (z : Int))) && (tn 1 (tn 4 (decide (z ≤ z) && (!decide (z = 0) && tn 1 (decide (0 + z * 1 ≤ List.length las)) && tn 1 (decide (0 + List.length x16 ≤ List.length now) && tn 1 (List.all x16 one)))) && tn 1 (tn 1 (same (List.getD x3 0 undefX) (List.getD x3 0 undefX)) && tn 2 (same (List.getD x3 1 undefX) (List.getD x3 1 undefX)))) && tn 2 (tn 3 (decide (4 < List.length x21)) && tn 4 (decide (3 < List.length (List.set x21 4 (Value.bool false))))))) && (tn 4 (tn 3 (decide (2 < List.length x10)) && tn 4 (decide (3 < List.length (List.set x10 2 x22)))) && (tn 1 (tn 4 x14 && tn 3 (tn 6 (tn 10 x15 && (!!decide (0 < (z : Int)) && tn 7 (decide (4 < List.length x4)))) && (tn 1 (tn 4 x15 && rp 2 x8 (tn 2 x8 && rp 5 x8 (tn 4 x15 && rp 4 x8 (tn 3 x8)))) && tn 1 (!decide (IntKind.wrap .i64 ((z : Int) - 0) < (z : Int))) && tn 2 (tn 4 x15 && (tn 3 (decide (0 ≤ IntKind.wrap .i64 (0 + (z : Int))) && tn 1 (decide (IntKind.wrap .i64 (0 + (z : Int)) ≤ (z : Int))) && tn 2 (decide (0 ≤ (↑(Int.toNat x20) : Int)))) && tn 7 (!decide (Int.toNat x20 - 0 = 0) && tn 1 (decide (0 + x1 * 1 ≤ List.length (splice now 0 x16))) && (!decide (0 + x1 ≤ 0) && (decide ((0 + x1) * 1 ≤ 140737488355328) && (decide (0 + x1 ≤ 9223372036854775807) && tn 2 (List.all x6 one))))))))) && tn 1 (tn 3 x14 && tn 1 (same x18 x18) && (tn 1 (same (Value.int .i64 z) (Value.int .i64 z)) && (tn 1 (same x13 x13) && rp 2 (same x7 x7) true)))) && tn 2 (tn 2 (!decide (0 + x1 = 0) && x12) && (tn 4 x14 && (tn 2 (!decide (z = 0) && x11) && (tn 1 (beqBytes (bytesOf x0) x5) && tn 3 (holds (CallsTo (OfNat.ofNat 8) ([] ++ [] ++ []) (endOf (cdEndY K g0 g1 z now las fu off on w1 w2)) x22 (endOf (cdEndY K g0 g1 z now las fu off on w1 w2)))) && tn 3 (beqBytes (bytesOf x0) x5)))) && tn 1 (tn 1 (same x7 x7) && (tn 1 (!decide (0 + x1 = 0) && x12) && tn 1 (same x17 x17) && (tn 3 x14 && tn 1 (same x18 x18) && (tn 1 (!decide (z = 0) && x11) && tn 1 (same x19 x19) && rp 3 (same x9 x9) (tn 3 (beqBytes (bytesOf x0) x5))))))))), ((XE.ret, ([none, none, none, none, some x22] ++ nn 86), endOf (cdEndY K g0 g1 z now las fu off on w1 w2)), []))) := by kernel_rfl
end Go.Xe
