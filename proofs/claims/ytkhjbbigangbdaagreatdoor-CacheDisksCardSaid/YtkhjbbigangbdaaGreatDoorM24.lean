/- A part of the proof. -/
import Derived.Test.YtkhjbbigangbdaaGreatDoorM22
import Derived.Test.YtkhjbbigangbdaaGreatDoorM23
set_option linter.all false
namespace Go.Xe
open Go Go.Proofs
theorem dlCode : codeOf Tryz.prog 20 = .seq (sub (codeOf Tryz.prog 20) [0]) (.seq (sub (codeOf Tryz.prog 20) [1,0]) (.seq (sub (codeOf Tryz.prog 20) [1,1,0]) (.seq (.seq (sub (codeOf Tryz.prog 20) [1,1,1,0,0]) (.block 0 (.loop dlL1))) (.seq (.seq dlE2 (.block 2 (.loop dlL2))) dlPo)))) := by kernel_rfl
theorem dlBody : Tryz.f20.body = some (codeOf Tryz.prog 20) := by kernel_rfl
theorem dlGoodA : goodCode (sub (codeOf Tryz.prog 20) [0]) = true := by kernel_rfl
theorem dlGoodB : goodCode (sub (codeOf Tryz.prog 20) [1,0]) = true := by kernel_rfl
theorem dlGoodC : goodCode (sub (codeOf Tryz.prog 20) [1,1,0]) = true := by kernel_rfl
theorem dlGoodD : goodCode (sub (codeOf Tryz.prog 20) [1,1,1,0,0]) = true := by kernel_rfl
section
variable {P : Pend} {z : Nat} {S : St} {now las : List Value} {df : Bool} {fu cut : Int} {kv : Value} {ks : List Value} {lk : Nat} (I : DLoseIn P z S now las df fu kv ks lk)
include I
def dlLas (ks : List Value) (lk : Nat) (cut : Int) (P : Pend) (las : List Value) : List Value := loseK (((keptP ks lk 0 P).length : Int) - 1) cut 0 (keptP ks lk 0 P) las
theorem dl_SR : SR Tryz.prog (codeOf Tryz.prog 20) (startX Tryz.f20 [.pointer (some ⟨100004, 0, none⟩), kv, .int .i64 cut]) S .ret (slZ 94 [(6, .int .i64 0)]) (S.ups (dlFin z (dlLas ks lk cut P las)) S.next) := by
 rw [dlCode]
 have hn := I.p.next
 have hz := I.z0
 obtain ⟨hK, hP, hlE⟩ := kept_all I
 have hfits : ∀ x, x ∈ keptP ks lk 0 P → x.2.1 + x.2.2.length ≤ z := fun x hx => (I.p.fits x.2 (List.mem_of_getElem? (hP x hx))).1
 have hbytes : ∀ x, x ∈ keptP ks lk 0 P → x.2.2.all isByte = true := fun x hx => (I.p.fits x.2 (List.mem_of_getElem? (hP x hx))).2
 obtain ⟨ka, kc, hkv⟩ : ∃ ka kc, kv = .slice ka lk kc := by
  rcases I.keep.v with ⟨rfl, rfl⟩ | ⟨kc, rfl, _⟩
  ·exact ⟨_, _, rfl⟩
  ·exact ⟨_, _, rfl⟩
 have nil : ∀ k (y : Ent), (k, y) ∈ ([] : List (Nat × Ent)) → k < S.next + 0 ∧ LowR (S.next + 0) y := fun k y h => by cases h
 have row : ∀ {C' : St}, C'.heap.get 100004 = some (dRow z P.length (wrV 100007 P.length) fu df) →
  ∀ x, x ∈ [(100004, dRow z P.length (wrV 100007 P.length) fu df)] → (x.1 < 199997 ∨ 200000 ≤ x.1 ∧ x.1 < 200000 + 0) ∧ (putU S.heap []).get (piF 199998 S.next x.1) = some x.2 ∧ LowR 199997 x.2 ∧ ((∃ y, (x.1, y) ∈ ([] : List (Nat × Ent))) ∨ C'.heap.get x.1 = some x.2) := by
  intro C' h' x hx
  obtain rfl := List.mem_singleton.1 hx
  exact ⟨.inl (Nat.le_of_ble_eq_true rfl), by rw [piF_keeps _ _ _ (Nat.le_of_ble_eq_true rfl)]; exact I.r4, fun π hk => lowE_ren hk (by kernel_rfl), .inr h'⟩
 have hk := piF_keeps 199998 S.next
 have hk0 : ∀ {π : Nat → Nat}, Keeps (S.next + 0) π → Keeps 199997 π := fun hk => hk.mono (by omega)
 let l3 : List (Nat × Value) := [(0, Value.pointer (some { block := 100004, off := 0 : Addr })), (1, kv), (2, .int .i64 cut)]
 let l4 : List (Nat × Value) := [(0, Value.pointer (some { block := 100004, off := 0 : Addr })), (1, kv), (2, .int .i64 cut), (7, .slice none 0 0)]
 have q3 : l3.all (fun p => low 199997 p.2) = true := by simp only [l3, List.all_cons, I.keep.low, List.all_nil, Bool.and_true]; rfl
 have q4 : l4.all (fun p => low 199997 p.2) = true := by simp only [l4, List.all_cons, I.keep.low, List.all_nil, Bool.and_true]; rfl
 have q5 : (dlH1 kv cut (.slice none 0 0) P.length 0).all (fun p => low 199997 p.2) = true := by simp only [dlH1, List.all_cons, I.keep.low, List.all_nil, Bool.and_true]; rfl
 have r3 : SlRen (piF 199998 S.next) (slZ 94 l3) (slZ 94 l3) := SlRen.slZ (PairsRen.low hk q3)
 have r4 : SlRen (piF 199998 S.next) (slZ 94 l4) (slZ 94 l4) := SlRen.slZ (PairsRen.low hk q4)
 have r5 : SlRen (piF 199998 S.next) (slZ 94 (dlH1 kv cut (.slice none 0 0) P.length 0)) (slZ 94 (dlH1 kv cut (.slice none 0 0) P.length 0)) := SlRen.slZ (PairsRen.low hk q5)
 have b3 : ∀ i v, slot (slZ 94 l3) i = some v → ∀ π, Keeps (S.next + 0) π → RenV π v v := fun i v hi π hk => slZ_low q3 i v hi π (hk0 hk)
 have b4 : ∀ i v, slot (slZ 94 l4) i = some v → ∀ π, Keeps (S.next + 0) π → RenV π v v := fun i v hi π hk => slZ_low q4 i v hi π (hk0 hk)
 have b5 : ∀ i v, slot (slZ 94 (dlH1 kv cut (.slice none 0 0) P.length 0)) i = some v → ∀ π, Keeps (S.next + 0) π → RenV π v v := fun i v hi π hk => slZ_low q5 i v hi π (hk0 hk)
 have hst : SlRen (piF 199998 S.next) (startX Tryz.f20 [.pointer (some ⟨100004, 0, none⟩), kv, .int .i64 cut]) (startX Tryz.f20 [.pointer (some ⟨100004, 0, none⟩), kv, .int .i64 cut]) := r3
 have hA : SB Tryz.prog S (sub (codeOf Tryz.prog 20) [0]) (startX Tryz.f20 [.pointer (some ⟨100004, 0, none⟩), kv, .int .i64 cut]) S .normal (slZ 94 l3) S := by
  have h := dlA z P.length lk kc cut fu df ka
  rw [← hkv] at h
  exact SB.near2 (lb := []) (l := []) (s1 := []) (m := 0) (m' := 0) callZ dlGoodA (Runs.path yxZ h rfl) rfl I.p.low hn (Nat.le_of_ble_eq_true rfl) (Nat.zero_le _) (row (by kernel_rfl)) (fun x hx => by cases hx) (fun j => rfl) nil hst r3 b3
 have hB : SB Tryz.prog S (sub (codeOf Tryz.prog 20) [1,0]) (slZ 94 l3) S .normal (slZ 94 (l3 ++ [(14, .bool false)])) S := by
  have h := dlB z P.length lk kc cut fu df ka
  rw [← hkv] at h
  have g1 : decide ((0 : Int) < (z : Int)) = true := decide_eq_true (by omega)
  simp only [g1] at h
  have q3' : (l3 ++ [(14, Value.bool false)]).all (fun p => low 199997 p.2) = true := by simp only [l3, List.cons_append, List.nil_append, List.all_cons, I.keep.low, List.all_nil, Bool.and_true]; rfl
  exact SB.near2 (lb := []) (l := []) (s1 := []) (m := 0) (m' := 0) callZ dlGoodB (Runs.path yxZ h rfl) rfl I.p.low hn (Nat.le_of_ble_eq_true rfl) (Nat.zero_le _) (row (by kernel_rfl)) (fun x hx => by cases hx) (fun j => rfl) nil r3 (SlRen.slZ (PairsRen.low hk q3')) (fun i v hi π hk => slZ_low q3' i v hi π (hk0 hk))
 have hB' : SB Tryz.prog S (sub (codeOf Tryz.prog 20) [1,0]) (slZ 94 l3) S .normal (slZ 94 l3) S := hB.moves (Moves.back2 (l := []) (l' := []) I.p.low (Nat.le_refl _) (Nat.le_refl _) nil (fun j => rfl) rfl (fun i v hi => ⟨by
  have h1 := slot_slZ hi
  simp only [l3, List.mem_cons, List.not_mem_nil, or_false, Prod.mk.injEq] at h1
  rcases h1 with ⟨rfl, rfl⟩ | ⟨rfl, rfl⟩ | ⟨rfl, rfl⟩ <;> rfl, b3 i v hi⟩))
 have hC : SB Tryz.prog S (sub (codeOf Tryz.prog 20) [1,1,0]) (slZ 94 l3) S .normal (slZ 94 l4) S := by
  have h := dlC z P.length lk kc cut fu df ka
  rw [← hkv] at h
  exact SB.near2 (lb := []) (l := []) (s1 := []) (m := 0) (m' := 0) callZ dlGoodC (Runs.path yxZ h rfl) rfl I.p.low hn (Nat.le_of_ble_eq_true rfl) (Nat.zero_le _) (row (by kernel_rfl)) (fun x hx => by cases hx) (fun j => rfl) nil r3 r4 b4
 have hD : SB Tryz.prog S (sub (codeOf Tryz.prog 20) [1,1,1,0,0]) (slZ 94 l4) S .normal (slZ 94 (dlH1 kv cut (.slice none 0 0) P.length 0)) (S.ups [] (S.next + 1)) := by
  have h := dlD z P.length lk kc cut fu df ka
  rw [← hkv] at h
  have h5 : SB Tryz.prog S (sub (codeOf Tryz.prog 20) [1,1,1,0,0]) (slZ 94 l4) S .normal (slZ 94 (dlH1 kv cut (.slice none 0 0) P.length 0)) S :=
   SB.near2 (lb := []) (l := []) (s1 := []) (m := 0) (m' := 0) callZ dlGoodD (Runs.path yxZ h rfl) rfl I.p.low hn (Nat.le_of_ble_eq_true rfl) (Nat.zero_le _) (row (by kernel_rfl)) (fun x hx => by cases hx) (fun j => rfl) nil r4 r5 b5
  exact h5.moves (Moves.wide _ I.p.low)
 have hL1 := dl_rounds1 (cut := cut) I P.length 0 (by omega)
 have hL2 := dl_rounds2 (cut := cut) I rfl (keptP ks lk 0 P).length 0 (by omega)
 have hE2 := dl_enter2 (cut := cut) I hlE
 have hPo := dl_post (cut := cut) (K := keptP ks lk 0 P) I (loseK_bytes (la := ((keptP ks lk 0 P).length : Int) - 1) (cut := cut) _ 0 las hbytes I.bytes6) (loseK_length (la := ((keptP ks lk 0 P).length : Int) - 1) (cut := cut) _ 0 las hfits I.len6)
 exact SR.ofB (SB.seq hA (SB.seq hB' (SB.seq hC (SB.seq (SB.seq hD (SB.block_exit (SB.loop hL1))) (SB.seq (SB.seq hE2 (SB.block_exit (SB.loop hL2))) hPo)))))
end
theorem lk_none {ks : List Value} {lk : Nat} : ∀ (P : Pend) (j : Nat), keptP ks lk j P = [] → lastK ks lk (j + P.length) = lastK ks lk j
 | [], j, _ => rfl
 | p :: r, j, h => by
  simp only [keptP] at h
  split at h
  ·cases h
  ·rename_i hk
   have := lk_none r (j + 1) h
   rw [show j + (p :: r).length = j + 1 + r.length by simp only [List.length_cons]; omega, this]
   simp only [lastK]
   rw [if_neg hk]
theorem lk_some {ks : List Value} {lk : Nat} : ∀ (P : Pend) (j : Nat), keptP ks lk j P ≠ [] → (j : Int) ≤ lastK ks lk (j + P.length)
 | [], j, h => absurd rfl h
 | p :: r, j, h => by
  rw [show j + (p :: r).length = j + 1 + r.length by simp only [List.length_cons]; omega]
  by_cases h0 : keptP ks lk (j + 1) r = []
  ·rw [lk_none r (j + 1) h0]
   simp only [keptP, h0] at h
   split at h
   ·rename_i hk
    simp only [lastK]
    rw [if_pos hk]
    exact Int.le_refl _
   ·exact absurd rfl h
  ·have := lk_some r (j + 1) h0
   omega
theorem loseK_eq (ks : List Value) (lk : Nat) (cut : Int) : ∀ (P : Pend) (j i : Nat) (acc : List Value),
 loseK ((i : Int) + ((keptP ks lk j P).length : Int) - 1) cut i (keptP ks lk j P) acc = loseP ks lk (lastK ks lk (j + P.length)) cut j P acc
 | [], j, i, acc => rfl
 | p :: r, j, i, acc => by
  have e : j + (p :: r).length = j + 1 + r.length := by simp only [List.length_cons]; omega
  rw [e]
  cases hk : keepB ks lk j with
  | false =>
   have h := loseK_eq ks lk cut r (j + 1) i acc
   simp only [keptP, loseP, loseS, hk, Bool.false_eq_true, if_false]
   exact h
  | true =>
   have hef : effL ((i : Int) + ((keptP ks lk j (p :: r)).length : Int) - 1) cut i p.2.length = effL (lastK ks lk (j + 1 + r.length)) cut j p.2.length := by
    have hl : (keptP ks lk j (p :: r)).length = (keptP ks lk (j + 1) r).length + 1 := by simp only [keptP, hk, if_true, List.length_cons]
    by_cases h0 : keptP ks lk (j + 1) r = []
    ·have h1 := lk_none r (j + 1) h0
     have h2 : lastK ks lk (j + 1) = (j : Int) := by simp only [lastK, hk, if_true]
     rw [h1, h2, hl, h0]
     unfold effL
     rw [show ((i : Int) + ((([] : Kept3).length + 1 : Nat) : Int) - 1) = (i : Int) by simp only [List.length_nil]; omega]
     simp only [true_and]
    ·have h1 := lk_some r (j + 1) h0
     have h2 : 0 < (keptP ks lk (j + 1) r).length := List.length_pos_iff.2 h0
     unfold effL
     rw [if_neg (by omega), if_neg (by omega)]
   have h := loseK_eq ks lk cut r (j + 1) (i + 1) (splice acc p.1 (p.2.take (effL (lastK ks lk (j + 1 + r.length)) cut j p.2.length)))
   have hL : (i : Int) + ((keptP ks lk j (p :: r)).length : Int) - 1 = ((i + 1 : Nat) : Int) + ((keptP ks lk (j + 1) r).length : Int) - 1 := by
    simp only [keptP, hk, if_true, List.length_cons]; omega
   rw [hL] at hef ⊢
   have hK : keptP ks lk j (p :: r) = (j, p) :: keptP ks lk (j + 1) r := by simp only [keptP, hk, if_true]
   rw [hK]
   simp only [loseK, loseP, loseS, hk, if_true]
   rw [hef]
   exact h
theorem dlLas_eq (ks : List Value) (lk : Nat) (cut : Int) (P : Pend) (las : List Value) : dlLas ks lk cut P las = loseP ks lk (lastK ks lk P.length) cut 0 P las := by
 have h := loseK_eq ks lk cut P 0 0 las
 rw [Nat.zero_add, show ((0 : Nat) : Int) + ((keptP ks lk 0 P).length : Int) - 1 = ((keptP ks lk 0 P).length : Int) - 1 by omega] at h
 exact h
theorem dl_SR2 {P : Pend} {z : Nat} {S : St} {now las : List Value} {df : Bool} {fu cut : Int} {kv : Value} {ks : List Value} {lk : Nat} (I : DLoseIn P z S now las df fu kv ks lk) :
 SR Tryz.prog (codeOf Tryz.prog 20) (startX Tryz.f20 [.pointer (some ⟨100004, 0, none⟩), kv, .int .i64 cut]) S .ret (slZ 94 [(6, .int .i64 0)]) (S.ups (dlFin z (loseP ks lk (lastK ks lk P.length) cut 0 P las)) S.next) := by
 rw [← dlLas_eq]; exact dl_SR I
noncomputable def dloseF (P : Pend) (z : Nat) (args : List Value) (S : St) : Y (Value × St) :=
 match args with
 | [.pointer (some ⟨100004, 0, none⟩), kv, .int .i64 cut] => match keepOf S kv, S.heap.get 100005, S.heap.get 100006 with
  | some (ks, lk), some (.row now 1 false), some (.row las 1 false) => match S.heap.get 100004 with
   | some (.row [_, _, _, .int .i64 fu, .bool df] _ _) => .req (@decide (DLoseIn P z S now las df fu kv ks lk) (Classical.propDecidable _)) (.pure (.int .i64 0, S.ups (dlFin z (loseP ks lk (lastK ks lk P.length) cut 0 P las)) S.next))
   | _ => none
  | _, _, _ => none
 | _ => none
theorem dloseF_sound (P : Pend) (z : Nat) (args : List Value) (S : St) (v : Value) (S' : St) (hx : dloseF P z args S = some (true, (v, S'))) (α : Place) (w : World) (args' : Array Value) (h : Rel α S w) (ha : LRel α args args'.toList) :
 Calls Tryz.prog 20 args' w fun e w' => ∃ β v', e = .returned v' ∧ Next α S w β S' w' ∧ VRel β v v' := by
 unfold dloseF at hx
 split at hx
 ·split at hx
  ·split at hx
   ·simp only [Y.req_is, Y.pure_is, decide_eq_true_eq, Prod.mk.injEq] at hx
    obtain ⟨I, rfl, rfl⟩ := hx
    exact SR.calls Tryz.func20 dlBody (dl_SR2 I) (.inr rfl) (by kernel_rfl) h ha
   ·cases hx
  ·cases hx
 ·cases hx
end Go.Xe
