/- A part of the proof. -/
import Derived.Test.YtkhjbbigangbdaaGreatDoorM29
set_option linter.all false
namespace Go.Xe
open Go Go.Proofs
def mainL (ks : List Nat) (K : List (Nat × Ent)) : List (Nat × Option Ent) := (K.filter fun p => ks.contains p.1).map fun p => (p.1, some p.2)
theorem mem_mainL {ks : List Nat} {K : List (Nat × Ent)} {i : Nat} {o : Option Ent} (h : (i, o) ∈ mainL ks K) : ∃ e, o = some e ∧ (i, e) ∈ K ∧ ks.contains i = true := by
 obtain ⟨p, hp, hpe⟩ := List.mem_map.1 h
 obtain ⟨h1, h2⟩ := List.mem_filter.1 hp
 cases hpe
 exact ⟨p.2, rfl, h1, h2⟩
theorem kMain_ro {P : Pend} {z : Nat} {las : List Value} {fu : Int} {off : Bool} {i : Nat} {e : Ent} (h : (i, e) ∈ kMain P z las fu off) : e.ro = false ∧ i ∈ [100003, 100004, 100005, 100006, 100008, 100009] := by
 simp only [kMain, List.mem_cons, List.not_mem_nil, or_false, Prod.mk.injEq] at h
 rcases h with ⟨rfl, rfl⟩ | ⟨rfl, rfl⟩ | ⟨rfl, rfl⟩ | ⟨rfl, rfl⟩ | ⟨rfl, rfl⟩ | ⟨rfl, rfl⟩ <;> exact ⟨rfl, by decide⟩
section
variable {n : Nat} {P P' : Pend} {z : Nat} {las las' : List Value} {fu fu' kd at0 n0 : Int} {off off' : Bool} {B0 C' : St} {R X : List (Nat × Ent)} {b k : Nat} {bv kv bS kS : Value} {call : XCall}
theorem turn_mainX (ks : List Nat) (hB : LowSt B0) (hBn : B0.next = 100003) (I : DInv n P z las fu) (I' : DInv n P' z las' fu') (hP : P' = P ∨ P' = []) (hC : CallSound Tryz.prog call)
 (hrun : Runs Tryz.prog okN call (kp 7) (codeOf Tryz.prog 7) (tArg kd at0 n0 bv kv) (cstX (tOf P) (R ++ X) 200000) .ret tRet C')
 (hR : ∀ p, p ∈ R → p ∈ kMain P z las fu off ++ kArr P)
 (hX : ∀ p, p ∈ X → (p.1 = 199997 ∨ p.1 = 199990) ∧ B0.heap.get (piT b k p.1) = some p.2 ∧ Near p.2 ∧ p.2.ro = true)
 (hb : b % 1024 = 1021 ∧ b < 100003) (hk : k % 1024 = 1021 ∧ k < 100003) (hbk : b ≠ k) (hbv : RenV (piT b k) bv bS) (hkv : RenV (piT b k) kv kS)
 (hNN : Nat.ble 200000 C'.next = true) (hCT : rts 10 C'.heap = tOf P)
 (hold : (keepR R (mainL ks (kMain P' z las' fu' off'))).map (fun p => C'.heap.get p.1) = (keepR R (mainL ks (kMain P' z las' fu' off'))).map (fun p => some p.2)) (hx : X.map (fun p => C'.heap.get p.1) = X.map (fun p => some p.2))
 (hnew : (mainL ks (kMain P' z las' fu' off')).map (fun p => p.2.bind fun _ => C'.heap.get p.1) = (mainL ks (kMain P' z las' fu' off')).map (·.2))
 (hsame : (kMain P' z las' fu' off').filter (fun p => !ks.contains p.1) = (kMain P z las fu off).filter (fun p => !ks.contains p.1)) :
 TurnTo B0 (tArgs kd at0 n0 bS kS) (kSt B0 P z las fu off) (kSt B0 P' z las' fu' off') := by
 have hkey : ∀ p, p ∈ mainL ks (kMain P' z las' fu' off') → p.1 ∈ [100003, 100004, 100005, 100006, 100008, 100009] := fun p hp => by
  obtain ⟨e, _, h2, _⟩ := mem_mainL (i := p.1) (o := p.2) hp
  exact (kMain_ro h2).2
 have hU : ((mainL ks (kMain P' z las' fu' off')).all fun p => p.1 % 1024 != 1021 && p.1 % 1024 != 1022 && p.1 != 199997 && p.1 != 199990) = true := by
  rw [List.all_eq_true]
  intro p hp
  have := hkey p hp
  simp only [List.mem_cons, List.not_mem_nil, or_false] at this
  rcases this with h | h | h | h | h | h <;> rw [h] <;> rfl
 have h := turn_calls (B0 := B0) (L' := mainL ks (kMain P' z las' fu' off')) I hC hrun hR hX hb hk hbk hbv hkv hNN hCT hU hold hx hnew (fun i y hi => by
  obtain ⟨e, h1, h2, _⟩ := mem_mainL hi
  cases h1
  exact ⟨fun b k => (k_low I' (List.mem_append.2 (.inl h2))).1 _ (piT_keeps b k), (kMain_ro h2).1⟩)
 have hnd : ((mainL ks (kMain P' z las' fu' off')).map (·.1)).Nodup := by
  have h1 := kRows_nodup (P := P') (z := z) (las := las') (fu := fu') (off := off')
  have h2 : ((kMain P' z las' fu' off').map (·.1)).Nodup := by
   unfold kRows at h1
   rw [List.map_append, List.nodup_append] at h1
   exact h1.1
  rw [List.Nodup, List.pairwise_map] at h2 ⊢
  unfold mainL
  rw [List.pairwise_map]
  exact h2.filter _
 refine turn_same hB hBn I' h (Nat.le_of_ble_eq_true hNN) (fun p hp => ?_) (fun _ => trivial) (fun j e hj => ?_)
 ·have := hkey p hp
  simp only [List.mem_cons, List.not_mem_nil, or_false] at this
  omega
 ·rw [upd_heap]
  rcases List.mem_append.1 hj with hj | hj
  ·cases hc : ks.contains j with
   | true => exact get_putO_mem _ _ _ _ hnd (List.mem_map.2 ⟨(j, e), List.mem_filter.2 ⟨hj, hc⟩, rfl⟩)
   | false =>
    rw [get_putO_not _ _ _ (fun hm => ?_)]
    ·have h1 : (j, e) ∈ (kMain P' z las' fu' off').filter (fun p => !ks.contains p.1) := List.mem_filter.2 ⟨hj, by simp only [hc, Bool.not_false]⟩
     rw [hsame] at h1
     exact k_getM (List.mem_filter.1 h1).1
    ·obtain ⟨p, hp, hpe⟩ := List.mem_map.1 hm
     obtain ⟨_, _, _, h3⟩ := mem_mainL (i := p.1) (o := p.2) hp
     rw [hpe, hc] at h3; cases h3
  ·rcases hP with rfl | rfl
   ·rw [get_putO_not _ _ _ (fun hm => ?_)]
    ·exact k_get (List.mem_append.2 (.inr hj))
    ·obtain ⟨p, hp, hpe⟩ := List.mem_map.1 hm
     have h1 := hkey p hp
     rw [hpe] at h1
     have h2 : j = 100007 ∨ j = 100010 ∨ j % 1024 = 1022 := by
      rcases List.mem_append.1 hj with h | h
      ·cases P' with
       | nil => cases h
       | cons p r =>
        simp only [kArr, List.mem_cons, List.not_mem_nil, or_false, Prod.mk.injEq] at h
        rcases h with h | h <;> omega
      ·obtain ⟨i, p, q, _, _, rfl, _⟩ := mem_kPend h
       exact .inr (.inr (tid_mod _))
     simp only [List.mem_cons, List.not_mem_nil, or_false] at h1
     omega
   ·cases hj
theorem turn_main (ks : List Nat) (hB : LowSt B0) (hBn : B0.next = 100003) (I : DInv n P z las fu) (I' : DInv n P' z las' fu') (hP : P' = P ∨ P' = []) (hbv : ArgV bv) (hkv : ArgV kv) (hC : CallSound Tryz.prog call)
 (hrun : Runs Tryz.prog okN call (kp 7) (codeOf Tryz.prog 7) (tArg kd at0 n0 bv kv) (cstX (tOf P) R 200000) .ret tRet C')
 (hR : ∀ p, p ∈ R → p ∈ kMain P z las fu off ++ kArr P) (hNN : Nat.ble 200000 C'.next = true) (hCT : rts 10 C'.heap = tOf P)
 (hold : (keepR R (mainL ks (kMain P' z las' fu' off'))).map (fun p => C'.heap.get p.1) = (keepR R (mainL ks (kMain P' z las' fu' off'))).map (fun p => some p.2))
 (hnew : (mainL ks (kMain P' z las' fu' off')).map (fun p => p.2.bind fun _ => C'.heap.get p.1) = (mainL ks (kMain P' z las' fu' off')).map (·.2))
 (hsame : (kMain P' z las' fu' off').filter (fun p => !ks.contains p.1) = (kMain P z las fu off).filter (fun p => !ks.contains p.1)) :
 TurnTo B0 (tArgs kd at0 n0 bv kv) (kSt B0 P z las fu off) (kSt B0 P' z las' fu' off') := by
 have hrun' : Runs Tryz.prog okN call (kp 7) (codeOf Tryz.prog 7) (tArg kd at0 n0 bv kv) (cstX (tOf P) (R ++ []) 200000) .ret tRet C' := by rw [List.append_nil]; exact hrun
 exact turn_mainX (X := []) (b := 1021) (k := 2045) ks hB hBn I I' hP hC hrun' hR (fun p hp => by cases hp) (by decide) (by decide) (by decide) (hbv.ren _ _) (hkv.ren _ _) hNN hCT hold rfl hnew hsame
end
theorem takeA {l : List Value} {m : Nat} (h : l.length ≤ m) : List.take (m * 1) (List.drop 0 l) = l := by
 rw [Nat.mul_one, List.drop_zero]; exact List.take_of_length_le h
theorem spliceA {l m : List Value} (h : l.length = m.length) : splice l 0 m = m := by
 unfold splice
 rw [List.take_zero, List.nil_append, Nat.zero_add, List.drop_eq_nil_of_le (by omega), List.append_nil]
section
variable {n : Nat} {P : Pend} {z : Nat} {las : List Value} {fu kd at0 n0 : Int} {off : Bool} {B0 : St} {bv kv : Value}
variable (hB : LowSt B0) (hBn : B0.next = 100003) (I : DInv n P z las fu) (hbv : ArgV bv) (hkv : ArgV kv)
include hB hBn I hbv hkv
theorem st_fu (hk : Int.tmod kd (OfNat.ofNat 8) = 3) (h1 : 0 ≤ n0) (h2 : n0 < 2 ^ 63) : TurnTo B0 (tArgs kd at0 n0 bv kv) (kSt B0 P z las fu false) (kSt B0 P z las n0 false) := by
 have z0 : decide (0 < (z : Int)) = true := decide_eq_true (by have := I.pos; omega)
 have f1 : decide (n0 < 0) = false := decide_eq_false (by omega)
 have I' : DInv n P z las n0 := ⟨I.many, I.n40, I.size, I.pos, I.fits, I.len, I.bytes, by omega, h2⟩
 exact turn_main [100004, 100008] hB hBn I I' (.inl rfl) hbv hkv callZ (Runs.path yxZ (tFu (tOf P) z (applyP las P) las kd at0 n0 fu (wD P) (wS P) bv kv) (by simp only [hk, all5 hbv.one hkv.one, z0, f1, same_int]; rfl)) rV_in rfl (by kernel_rfl) (by kernel_rfl) (by kernel_rfl) (by kernel_rfl)
theorem st_po (hk : Int.tmod kd (OfNat.ofNat 8) = 5) : TurnTo B0 (tArgs kd at0 n0 bv kv) (kSt B0 P z las fu off) (kSt B0 [] z las (-1) false) := by
 have z0 : decide (0 < (z : Int)) = true := decide_eq_true (by have := I.pos; omega)
 have hl := now_len I
 have hll := I.len
 have I' : DInv n [] z las (-1) := ⟨Nat.zero_le _, I.n40, I.size, I.pos, (fun p hp => by cases hp), I.len, I.bytes, by omega, by omega⟩
 have h := tPo (tOf P) z (applyP las P) las kd at0 n0 fu off (wD P) (wS P) bv kv
 have e1 : List.take (z * 1) (List.drop 0 las) = las := takeA (by omega)
 have e2 : splice (applyP las P) 0 las = las := spliceA (by omega)
 simp only [e1, e2] at h
 have f1 : decide (z ≤ z) = true := decide_eq_true (by omega)
 have f2 : decide (z = 0) = false := decide_eq_false (by have := I.pos; omega)
 have f3 : decide (0 + z * 1 ≤ las.length) = true := decide_eq_true (by omega)
 have f4 : decide (0 + las.length ≤ (applyP las P).length) = true := decide_eq_true (by omega)
 have f5 : las.all one = true := ones_bytes I.bytes
 exact turn_main [100004, 100005, 100008] hB hBn I I' (.inr rfl) hbv hkv callZ (Runs.path yxZ h (by
  simp only [hk, all5 hbv.one hkv.one, z0, f1, f2, f3, f4, f5]
  repeat rw [same_of]
  ·rfl
  all_goals rfl)) rV_in rfl (by kernel_rfl) (by kernel_rfl) (by kernel_rfl) (by kernel_rfl)
end
def gP (P : Pend) (z : Nat) (now las laR : List Value) (w1 w2 : Value) (fu fuR : Int) (off on : Bool) : List (Nat × Option Ent) :=
 [(100003, some (.row [.pointer (some ⟨100004, 0, none⟩)] 0 false)), (100004, some (dRow z 0 w1 fu off)), (100005, some (.row now 1 false)), (100006, some (.row las 1 false)), (100007, some (.row (arrC 0 0 P) 2 false)), (100008, some (rRow z w2 on fuR)), (100009, some (.row laR 1 false)), (100010, some (.row (arrC 1 0 P) 2 false))]
def LowL (N : Nat) (l : List (Nat × Option Ent)) : Prop := ∀ i y, (i, some y) ∈ l → i < N ∧ LowR 200000 y
theorem LowL.nil (N : Nat) : LowL N [] := fun i y h => by cases h
theorem LowL.cons {N i : Nat} {y : Ent} {l : List (Nat × Option Ent)} (h1 : i < N) (h2 : LowR 200000 y) (h : LowL N l) : LowL N ((i, some y) :: l) := fun j x hx => by
 rcases List.mem_cons.1 hx with hx | hx
 ·cases hx; exact ⟨h1, h2⟩
 ·exact h j x hx
theorem LowL.gone {N i : Nat} {l : List (Nat × Option Ent)} (h : LowL N l) : LowL N ((i, none) :: l) := fun j x hx => by
 rcases List.mem_cons.1 hx with hx | hx
 ·cases hx
 ·exact h j x hx
theorem LowL.append {N : Nat} {l l' : List (Nat × Option Ent)} (h : LowL N l) (h' : LowL N l') : LowL N (l ++ l') := fun j x hx => by
 rcases List.mem_append.1 hx with hx | hx
 ·exact h j x hx
 ·exact h' j x hx
theorem turnRow_low {kd at0 n0 : Int} {bv kv : Value} (hb : low1 200000 bv = true) (hk : low1 200000 kv = true) : LowR 200000 (.row [.int .u8 kd, .int .i64 at0, .int .i64 n0, bv, kv] 0 false) := fun π hπ =>
 lowE_ren hπ (by simp only [lowE, List.all_cons, List.all_nil, hb, hk]; rfl)
theorem ArgV.low1 {v : Value} (h : ArgV v) : low1 200000 v = true := by
 rcases h with rfl | ⟨u, l, c, rfl, hu⟩
 ·rfl
 ·exact decide_eq_true (show u < 200000 by omega)
section
variable {n : Nat} {P : Pend} {z : Nat} {las : List Value} {fu : Int}
theorem gP_low (I : DInv n P z las fu) {now la laR : List Value} {w1 w2 : Value} {f fuR : Int} {off on : Bool} {N : Nat} (hN : 200000 ≤ N) (h1 : now.all isByte = true) (h2 : la.all isByte = true) (h3 : laR.all isByte = true) (hv : low1 200000 w1 = true) (hw : low1 200000 w2 = true) : LowL N (gP P z now la laR w1 w2 f fuR off on) := by
 have ha : ∀ q, q < 2 → LowR 200000 (.row (arrC q 0 P) 2 false) := fun q hq π hπ => lowE_ren (hπ.mono (by omega)) (arr_low I q hq)
 exact .cons (by omega) (fun π hπ => lowE_ren hπ (by kernel_rfl)) (.cons (by omega) (fun π hπ => lowE_ren hπ (by simp only [dRow, lowE, List.all_cons, hv]; rfl)) (.cons (by omega) (fun π _ => bytes_ren h1 π) (.cons (by omega) (fun π _ => bytes_ren h2 π) (.cons (by omega) (ha 0 (by omega)) (.cons (by omega) (fun π hπ => lowE_ren hπ (by simp only [rRow, lowE, List.all_cons, hw]; rfl)) (.cons (by omega) (fun π _ => bytes_ren h3 π) (.cons (by omega) (ha 1 (by omega)) (.nil _))))))))
theorem pcond_of (I : DInv n P z las fu) {q : Nat} (hq : q < 2) {S : St} {L : List (Nat × Option Ent)} (hh : S.heap = putO (seedX (tOf P)) L) (hg : S.glob = 0) (hT : rts 10 S.heap = tOf P) (hn : 200000 ≤ S.next) (hL : LowL S.next L) : PCond q P z S := by
 refine ⟨hn, ⟨by rw [hg]; exact Nat.zero_le _, fun i e hi => ?_⟩, Nat.le_trans I.many I.n40, I.size, I.fits, fun i p hp => ?_⟩
 ·rw [hh] at hi
  rcases get_putO2 _ _ _ _ hi with h1 | ⟨h1, _⟩
  ·obtain ⟨h2, h3⟩ := hL i e h1
   exact ⟨h2, fun π hπ => h3 π (hπ.mono hn)⟩
  ·rw [seedX_eq] at h1
   rcases seed_get h1 with ⟨j, rfl, h2⟩ | ⟨j, rfl, h2⟩
   ·obtain ⟨i, p, q, g1, g2, rfl, rfl⟩ := tOf_inv h2
    have := (List.getElem?_eq_some_iff.1 g1).1
    have := I.many; have := I.n40
    exact ⟨by unfold tid; omega, fun π _ => bytes_ren (I.fits p (List.mem_of_getElem? g1)).2 π⟩
   ·simp [PT.get] at h2
 ·rw [get_tid, hT]; exact tOf_get hq hp
theorem rP_in {off : Bool} (hne : P ≠ []) : ∀ p, p ∈ rP P z (applyP las P) las fu off (!off) → p ∈ kMain P z las fu off ++ kArr P := by
 intro p hp
 simp only [rP, List.mem_cons, List.not_mem_nil, or_false] at hp
 rw [kArr_cons hne, kMain, wD_cons hne, wS_cons hne]
 simp only [List.cons_append, List.nil_append, List.mem_cons, List.not_mem_nil, or_false]
 rcases hp with h | h | h | h | h | h | h | h <;> simp only [h, true_or, or_true]
end
section
variable {n : Nat} {P : Pend} {z : Nat} {las : List Value} {fu kd at0 n0 : Int} {off : Bool} {B0 : St} {bv kv : Value}
variable (hB : LowSt B0) (hBn : B0.next = 100003)
include hB hBn
theorem st_sy0 (I : DInv n [] z las fu) (hbv : ArgV bv) (hkv : ArgV kv) (hk : Int.tmod kd (OfNat.ofNat 8) = 2) : TurnTo B0 (tArgs kd at0 n0 bv kv) (kSt B0 [] z las fu false) (kSt B0 [] z las fu false) := by
 have z0 : decide (0 < (z : Int)) = true := decide_eq_true (by have := I.pos; omega)
 have hll := I.len
 have e1 : List.take (z * 1) (List.drop 0 las) = las := takeA (by omega)
 have e2 : splice las 0 las = las := spliceA rfl
 have h := tSy0 (tOf []) z las las kd at0 n0 fu bv kv
 simp only [e1, e2] at h
 have f1 : decide (z ≤ z) = true := decide_eq_true (by omega)
 have f2 : decide (z = 0) = false := decide_eq_false (by have := I.pos; omega)
 have f3 : decide (0 + z * 1 ≤ las.length) = true := decide_eq_true (by omega)
 have f4 : decide (0 + las.length ≤ las.length) = true := decide_eq_true (by omega)
 have f5 : las.all one = true := ones_bytes I.bytes
 exact turn_quiet hB hBn I hbv hkv callZ (Runs.path yxZ h (by
  simp only [hk, all5 hbv.one hkv.one, z0, f1, f2, f3, f4, f5]
  repeat rw [same_of]
  ·rfl
  all_goals rfl)) (rV_in (P := []) (off := false)) rfl (by kernel_rfl) (by kernel_rfl)
theorem st_syP (I : DInv n P z las fu) (hne : P ≠ []) (hbv : ArgV bv) (hkv : ArgV kv) (hk : Int.tmod kd (OfNat.ofNat 8) = 2) : TurnTo B0 (tArgs kd at0 n0 bv kv) (kSt B0 P z las fu false) (kSt B0 [] z (applyP las P) fu false) := by
 have z0 : decide (0 < (z : Int)) = true := decide_eq_true (by have := I.pos; omega)
 have hll := I.len
 have hl := now_len I
 have hby := now_bytes I
 have e1 : List.take (z * 1) (List.drop 0 (applyP las P)) = applyP las P := takeA (by omega)
 have e2 : splice las 0 (applyP las P) = applyP las P := spliceA (by omega)
 have h := tSyP (tOf P) P z (applyP las P) las kd at0 n0 fu bv kv
 simp only [e1, e2] at h
 have f1 : decide (z ≤ z) = true := decide_eq_true (by omega)
 have f2 : decide (z = 0) = false := decide_eq_false (by have := I.pos; omega)
 have f3 : decide (0 + z * 1 ≤ (applyP las P).length) = true := decide_eq_true (by omega)
 have f4 : decide (0 + (applyP las P).length ≤ las.length) = true := decide_eq_true (by omega)
 have f5 : (applyP las P).all one = true := ones_bytes hby
 have I' : DInv n [] z (applyP las P) fu := ⟨Nat.zero_le _, I.n40, I.size, I.pos, (fun p hp => by cases hp), hl, hby, I.lo, I.hi⟩
 refine turn_main [100004, 100006, 100008, 100009] hB hBn I I' (.inr rfl) hbv hkv (callD P z) (Runs.path (yxD P z) h ?_) (rP_in hne) rfl (by kernel_rfl) (by kernel_rfl) (by kernel_rfl) (by kernel_rfl)
 simp only [hk, all5 hbv.one hkv.one, z0, f1, f2, f3, f4, f5]
 rw [holds_of (p := SyncIn P z _ las fu)]
 ·repeat rw [same_of]
  ·rfl
  all_goals rfl
 ·refine ⟨pcond_of I (by decide) (L := gP P z (applyP las P) (applyP las P) las (.slice none 0 0) (wrV 100010 P.length) fu fu false true ++ [(200000, some (.row [.int .u8 kd, .int .i64 at0, .int .i64 n0, bv, kv] 0 false))]) (by kernel_rfl) rfl (by kernel_rfl) (Nat.le_of_ble_eq_true rfl) ?_, by kernel_rfl, by kernel_rfl, by kernel_rfl, hll, I.bytes⟩
  exact (gP_low I (Nat.le_of_ble_eq_true rfl) hby hby I.bytes rfl rfl).append (.cons (Nat.le_of_ble_eq_true rfl) (turnRow_low hbv.low1 hkv.low1) (.nil _))
theorem st_lo0 (I : DInv n [] z las fu) (hbv : ArgV bv) (hkv : ArgV kv) (hk : Int.tmod kd (OfNat.ofNat 8) = 4) : TurnTo B0 (tArgs kd at0 n0 bv kv) (kSt B0 [] z las fu off) (kSt B0 [] z las (-1) true) := by
 have z0 : decide (0 < (z : Int)) = true := decide_eq_true (by have := I.pos; omega)
 have hll := I.len
 have e1 : List.take (z * 1) (List.drop 0 las) = las := takeA (by omega)
 have e2 : splice las 0 las = las := spliceA rfl
 have h := tLo0 (tOf []) z las las kd at0 n0 fu off bv kv
 simp only [e1, e2] at h
 have f1 : decide (z ≤ z) = true := decide_eq_true (by omega)
 have f2 : decide (z = 0) = false := decide_eq_false (by have := I.pos; omega)
 have f3 : decide (0 + z * 1 ≤ las.length) = true := decide_eq_true (by omega)
 have f4 : decide (0 + las.length ≤ las.length) = true := decide_eq_true (by omega)
 have f5 : las.all one = true := ones_bytes I.bytes
 have I' : DInv n [] z las (-1) := ⟨Nat.zero_le _, I.n40, I.size, I.pos, (fun p hp => by cases hp), I.len, I.bytes, by omega, by omega⟩
 exact turn_main [100004, 100005, 100008] hB hBn I I' (.inr rfl) hbv hkv callZ (Runs.path yxZ h (by
  simp only [hk, all5 hbv.one hkv.one, z0, f1, f2, f3, f4, f5]
  repeat rw [same_of]
  ·rfl
  all_goals rfl)) (rV_in (P := [])) rfl (by kernel_rfl) (by kernel_rfl) (by kernel_rfl) (by kernel_rfl)
end
end Go.Xe
