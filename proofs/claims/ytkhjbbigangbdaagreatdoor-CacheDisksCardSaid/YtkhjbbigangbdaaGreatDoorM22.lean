/- A part of the proof. -/
import Derived.Test.YtkhjbbigangbdaaGreatDoorM20
import Derived.Test.YtkhjbbigangbdaaGreatDoorM21
import Derived.Test.YtkhjbbigangbdaaGreatDoorM13
set_option linter.all false
namespace Go.Xe
open Go Go.Proofs
def loseK (la cut : Int) : Nat → Kept3 → List Value → List Value
 | _, [], acc => acc
 | i, x :: r, acc => loseK la cut (i + 1) r (splice acc x.2.1 (x.2.2.take (effL la cut i x.2.2.length)))
theorem loseK_append (la cut : Int) : ∀ (K L : Kept3) (j : Nat) (acc : List Value), loseK la cut j (K ++ L) acc = loseK la cut (j + K.length) L (loseK la cut j K acc)
 | [], L, j, acc => rfl
 | x :: r, L, j, acc => by
  simp only [List.cons_append, loseK, List.length_cons]
  rw [loseK_append la cut r L (j + 1)]
  congr 1; omega
theorem loseK_take_succ {la cut : Int} {K : Kept3} {i : Nat} {x : Nat × (Nat × List Value)} (h : K[i]? = some x) (las : List Value) :
 loseK la cut 0 (K.take (i + 1)) las = splice (loseK la cut 0 (K.take i) las) x.2.1 (x.2.2.take (effL la cut i x.2.2.length)) := by
 have hi := (List.getElem?_eq_some_iff.1 h).1
 have e : K.take (i + 1) = K.take i ++ [x] := by rw [List.take_add_one, h]; rfl
 rw [e, loseK_append, List.length_take, Nat.zero_add, Nat.min_eq_left (by omega)]; rfl
theorem loseK_length {la cut : Int} {z : Nat} : ∀ (K : Kept3) (j : Nat) (las : List Value), (∀ x, x ∈ K → x.2.1 + x.2.2.length ≤ z) → las.length = z → (loseK la cut j K las).length = z
 | [], j, las, _, h => h
 | x :: r, j, las, hf, h => loseK_length r _ _ (fun y hy => hf y (by simp [hy])) (by
  have h1 := hf x (by simp)
  have := effL_le la cut j x.2.2.length
  rw [splice_length (by rw [List.length_take]; omega)]; exact h)
theorem loseK_bytes {la cut : Int} : ∀ (K : Kept3) (j : Nat) (las : List Value), (∀ x, x ∈ K → x.2.2.all isByte = true) → las.all isByte = true → (loseK la cut j K las).all isByte = true
 | [], j, las, _, h => h
 | x :: r, j, las, hf, h => loseK_bytes r _ _ (fun y hy => hf y (by simp [hy])) (splice_bytes h (all_take_of (hf x (by simp)) _))
theorem arrK_at : ∀ (K : Kept3) (i : Nat) (x : Nat × (Nat × List Value)), K[i]? = some x →
 (arrK K)[2 * i]? = some (.int .i64 (x.2.1 : Int)) ∧ (arrK K)[2 * i + 1]? = some (.slice (some ⟨tid (100 + 2 * x.1), 0, none⟩) x.2.2.length x.2.2.length)
 | [], i, x, h => by simp at h
 | y :: r, 0, x, h => by
  simp at h; subst h
  exact ⟨rfl, rfl⟩
 | y :: r, i + 1, x, h => arrK_at r i x (by simpa using h)
def arrKS (K : Kept3) (i l : Nat) : List Value := (arrK K).set (2 * i + 1) (.slice (some ⟨199997, 0, none⟩) l l)
theorem arrKS_length (K : Kept3) (i l : Nat) : (arrKS K i l).length = 2 * K.length := by unfold arrKS; rw [List.length_set, arrK_length]
theorem arrKS_take {K : Kept3} {i : Nat} {x : Nat × (Nat × List Value)} (h : K[i]? = some x) :
 List.take 2 (List.drop (0 + i * 2) (arrKS K i x.2.2.length)) = [.int .i64 (x.2.1 : Int), .slice (some ⟨199997, 0, none⟩) x.2.2.length x.2.2.length] := by
 obtain ⟨h1, h2⟩ := arrK_at K i x h
 have hi := (List.getElem?_eq_some_iff.1 h).1
 apply List.ext_getElem?
 intro j
 rw [List.getElem?_take]
 split
 ·rename_i hj
  rw [List.getElem?_drop]
  have hj' : j = 0 ∨ j = 1 := by omega
  rcases hj' with rfl | rfl
  ·unfold arrKS
   rw [List.getElem?_set_ne (by omega), show 0 + i * 2 + 0 = 2 * i by omega, h1]; rfl
  ·unfold arrKS
   rw [show 0 + i * 2 + 1 = 2 * i + 1 by omega, List.getElem?_set_self (by rw [arrK_length]; omega)]; rfl
 ·rename_i hj
  rw [List.getElem?_eq_none (by simp; omega)]
theorem sameK_hint {K : Kept3} {i : Nat} {x : Nat × (Nat × List Value)} (h : K[i]? = some x) :
 same (Value.agg (List.toArray (List.take 2 (List.drop (0 + i * 2) (arrKS K i x.2.2.length))))) (Value.agg { toList := [Value.int IntKind.i64 (x.2.1 : Int), Value.slice (some { block := 199997, off := 0 : Addr }) x.2.2.length x.2.2.length] : Array Value }) = true := by
 rw [arrKS_take h]
 exact same_of rfl
theorem arrKS_ren {K : Kept3} {i n : Nat} {x : Nat × (Nat × List Value)} (h : K[i]? = some x) (hK : ∀ y, y ∈ K → tid (100 + 2 * y.1) < 199997) :
 RenL (piF (tid (100 + 2 * x.1)) n) (arrKS K i x.2.2.length) (arrK K) := by
 obtain ⟨_, h2⟩ := arrK_at K i x h
 refine RenL.set (low1s_ren (piF_keeps _ _) (arrK_low K hK)) h2 ?_
 have := RenV.slice (π := piF (tid (100 + 2 * x.1)) n) 199997 0 x.2.2.length x.2.2.length
 rw [show piF (tid (100 + 2 * x.1)) n 199997 = tid (100 + 2 * x.1) by unfold piF; rw [if_pos rfl]] at this
 exact this
noncomputable abbrev dlL2 : Code := sub (codeOf Tryz.prog 20) [1,1,1,1,0,1,0,0]
theorem dlGood2 : goodCode dlL2 = true := by kernel_rfl
def dlH2 (cut : Int) (kept : Value) (r i : Nat) : List (Nat × Value) := [(0, Value.pointer (some { block := 100004, off := 0 : Addr })), (2, .int .i64 cut), (7, kept), (40, kept), (41, .int .i64 (r : Int)), (42, .int .i64 (i : Int))]
def dlZ2 (cut : Int) (kept : Value) (r : Nat) : List (Nat × Value) := dlH2 cut kept r r ++ [(43, .bool false)]
def dlE (x : Nat) (K : Kept3) (acc : List Value) : List (Nat × Ent) := (100006, .row acc 1 false) :: keptE x K
section
variable {P : Pend} {z : Nat} {S : St} {now las : List Value} {df : Bool} {fu cut : Int} {kv : Value} {ks : List Value} {lk : Nat} (I : DLoseIn P z S now las df fu kv ks lk)
include I
theorem dlH2_ren (t r i : Nat) (K : Kept3) : SlRen (piF t S.next) (slZ 94 (dlH2 cut (keptV 200000 K) r i)) (slZ 94 (dlH2 cut (keptV S.next K) r i)) := by
 have hk := piF_keeps t S.next
 exact SlRen.slZ ⟨rfl, low_ren hk rfl, rfl, low_ren hk rfl, rfl, keptV_ren I t K, rfl, keptV_ren I t K, rfl, low_ren hk rfl, rfl, low_ren hk rfl, trivial⟩
theorem dlZ2_ren (t r : Nat) (K : Kept3) : SlRen (piF t S.next) (slZ 94 (dlZ2 cut (keptV 200000 K) r)) (slZ 94 (dlZ2 cut (keptV S.next K) r)) := by
 have hk := piF_keeps t S.next
 exact SlRen.slZ ⟨rfl, low_ren hk rfl, rfl, low_ren hk rfl, rfl, keptV_ren I t K, rfl, keptV_ren I t K, rfl, low_ren hk rfl, rfl, low_ren hk rfl, rfl, low_ren hk rfl, trivial⟩
theorem dlZ2_low (r : Nat) (K : Kept3) : ∀ j v, slot (slZ 94 (dlZ2 cut (keptV S.next K) r)) j = some v → ∀ π, Keeps (S.next + 1) π → RenV π v v := fun j v h π hk => by
 have hn := I.p.next
 have h1 := slot_slZ h
 have hk' : Keeps 199997 π := hk.mono (by omega)
 simp only [dlZ2, dlH2, List.cons_append, List.nil_append, List.mem_cons, List.not_mem_nil, or_false, Prod.mk.injEq] at h1
 rcases h1 with ⟨rfl, rfl⟩ | ⟨rfl, rfl⟩ | ⟨rfl, rfl⟩ | ⟨rfl, rfl⟩ | ⟨rfl, rfl⟩ | ⟨rfl, rfl⟩ | ⟨rfl, rfl⟩
 ·exact low_ren hk' rfl
 ·exact low_ren hk' rfl
 ·exact keptV_low I K π hk
 ·exact keptV_low I K π hk
 ·exact low_ren hk' rfl
 ·exact low_ren hk' rfl
 ·exact low_ren hk' rfl
theorem dlH2_low (r i : Nat) (K : Kept3) : ∀ j v, slot (slZ 94 (dlH2 cut (keptV S.next K) r i)) j = some v → ∀ π, Keeps (S.next + 1) π → RenV π v v := fun j v h π hk => by
 have hn := I.p.next
 have h1 := slot_slZ h
 have hk' : Keeps 199997 π := hk.mono (by omega)
 simp only [dlH2, List.mem_cons, List.not_mem_nil, or_false, Prod.mk.injEq] at h1
 rcases h1 with ⟨rfl, rfl⟩ | ⟨rfl, rfl⟩ | ⟨rfl, rfl⟩ | ⟨rfl, rfl⟩ | ⟨rfl, rfl⟩ | ⟨rfl, rfl⟩
 ·exact low_ren hk' rfl
 ·exact low_ren hk' rfl
 ·exact keptV_low I K π hk
 ·exact keptV_low I K π hk
 ·exact low_ren hk' rfl
 ·exact low_ren hk' rfl
theorem dlE_low {K : Kept3} {acc : List Value} (hK : ∀ k y, (k, y) ∈ keptE S.next K → k < S.next + 1 ∧ LowR (S.next + 1) y) (hb : acc.all isByte = true) : ∀ k y, (k, y) ∈ dlE S.next K acc → k < S.next + 1 ∧ LowR (S.next + 1) y := by
 intro k y h
 have hn := I.p.next
 rcases List.mem_cons.1 h with h | h
 ·cases h
  exact ⟨by omega, fun π _ => bytes_ren hb π⟩
 ·exact hK k y h
theorem dlE_ne {K : Kept3} {acc : List Value} {j : Nat} (h : j < S.next) (h6 : j ≠ 100006) : (putU S.heap (dlE S.next K acc)).get j = S.heap.get j := by
 show ((putU S.heap (keptE S.next K)).set 100006 _).get j = _
 rw [PT.get_set_ne _ _ h6, keptE_ne I h]
theorem dl_key2 {K : Kept3} {i : Nat} {x : Nat × (Nat × List Value)} (h : K[i]? = some x) (hx : P[x.1]? = some x.2) (hK : ∀ y, y ∈ K → tid (100 + 2 * y.1) < 199997)
 (hlE : ∀ k y, (k, y) ∈ keptE S.next K → k < S.next + 1 ∧ LowR (S.next + 1) y) {acc acc' : List Value} (hb : acc.all isByte = true) (hb' : acc'.all isByte = true) (L : List (Nat × Ent)) (N : Nat) (C' : St)
 (hrun : Runs Tryz.prog okN (xgoO Tryz.prog okN orcZ kp 100) (kp 20) dlL2 (slZ 94 (dlH2 cut (.slice (some ⟨200000, 0, none⟩) K.length K.length) K.length i)) (ofL L N) .normal (slZ 94 (dlH2 cut (.slice (some ⟨200000, 0, none⟩) K.length K.length) K.length (i + 1))) C')
 (hL : L = [(100004, dRow z P.length (wrV 100007 P.length) fu df), (100006, .row acc 1 false), (200000, .row (arrKS K i x.2.2.length) 2 false), (199997, .row x.2.2 1 false)]) (hN : N = 200000 + 1) (hn' : 200001 ≤ C'.next)
 (c4 : C'.heap.get 100004 = some (dRow z P.length (wrV 100007 P.length) fu df)) (c6 : C'.heap.get 100006 = some (.row acc' 1 false)) (ck : C'.heap.get 200000 = some (.row (arrKS K i x.2.2.length) 2 false)) (cr : C'.heap.get 199997 = some (.row x.2.2 1 false)) :
 SB Tryz.prog S dlL2 (slZ 94 (dlH2 cut (keptV S.next K) K.length i)) (S.ups (dlE S.next K acc) (S.next + 1)) .normal (slZ 94 (dlH2 cut (keptV S.next K) K.length (i + 1))) (S.ups (dlE S.next K acc') (S.next + 1)) := by
 have hn := I.p.next
 have hm := I.p.many
 have hi := (List.getElem?_eq_some_iff.1 h).1
 have hj := (List.getElem?_eq_some_iff.1 hx).1
 have ht := hK x (List.mem_of_getElem? h)
 have hmod := tid_mod (100 + 2 * x.1)
 have hfit := I.p.fits x.2 (List.mem_of_getElem? hx)
 have hkp := piF_keeps (tid (100 + 2 * x.1)) S.next
 have p0 : piF (tid (100 + 2 * x.1)) S.next 200000 = S.next := piF_new _ S.next 0
 have p7 : piF (tid (100 + 2 * x.1)) S.next 199997 = tid (100 + 2 * x.1) := by unfold piF; rw [if_pos rfl]
 have h0 : K ≠ [] := fun h0 => by rw [h0] at hi; simp at hi
 have eE : keptE S.next K = [(S.next, .row (arrK K) 2 false)] := by
  cases K with
  | nil => exact absurd rfl h0
  | cons y r => rfl
 have eV : ∀ w, keptV w K = .slice (some ⟨w, 0, none⟩) K.length K.length := fun w => by
  cases K with
  | nil => exact absurd rfl h0
  | cons y r => rfl
 rw [← eV] at hrun
 have mem : ∀ j y, (ofL L N).heap.get j = some y → (j = 100004 ∧ y = dRow z P.length (wrV 100007 P.length) fu df) ∨ (j = 100006 ∧ y = .row acc 1 false) ∨ (j = 200000 ∧ y = .row (arrKS K i x.2.2.length) 2 false) ∨ (j = 199997 ∧ y = .row x.2.2 1 false) := fun j y h => by
  rcases get_putL _ .leaf j y h with h1 | h1
  ·simp [PT.get] at h1
  ·rw [hL] at h1
   simpa only [List.mem_cons, List.not_mem_nil, or_false, Prod.mk.injEq] using h1
 have g6 : (putU S.heap (dlE S.next K acc)).get 100006 = some (.row acc 1 false) := by
  show ((putU S.heap (keptE S.next K)).set 100006 _).get 100006 = _
  rw [PT.get_set_same]
 have gK : (putU S.heap (dlE S.next K acc)).get S.next = some (.row (arrK K) 2 false) := by
  show ((putU S.heap (keptE S.next K)).set 100006 _).get S.next = _
  rw [PT.get_set_ne _ _ (by omega), eE]
  show (S.heap.set S.next _).get S.next = _
  rw [PT.get_set_same]
 refine SB.small2 (m := 1) (m' := 1) (l1 := [(100006, .row acc' 1 false)]) callZ dlGood2 hrun (tid (100 + 2 * x.1)) I.p.low hn (by omega) hN rfl hn' (by omega) (fun j y hj => ?_) ⟨fun j y hj => ?_, fun k y hy => ?_⟩ (fun j => ?_) (dlE_low I hlE hb') (dlH2_ren I _ _ _ _) (dlH2_ren I _ _ _ _) (dlH2_low I _ _ _)
 ·rcases mem j y hj with ⟨rfl, rfl⟩ | ⟨rfl, rfl⟩ | ⟨rfl, rfl⟩ | ⟨rfl, rfl⟩
  ·exact ⟨by omega, _, by rw [hkp _ (by omega), dlE_ne I (by omega) (by omega)]; exact I.r4, lowE_ren hkp (by kernel_rfl)⟩
  ·exact ⟨by omega, _, by rw [hkp _ (by omega)]; exact g6, bytes_ren hb _⟩
  ·exact ⟨by omega, _, by rw [p0]; exact gK, .row (arrKS_ren h hK)⟩
  ·refine ⟨by omega, _, ?_, bytes_ren hfit.2 _⟩
   rw [p7, dlE_ne I (by omega) (by omega)]
   exact I.p.rows x.1 x.2 hx
 ·rcases mem j y hj with ⟨rfl, rfl⟩ | ⟨rfl, rfl⟩ | ⟨rfl, rfl⟩ | ⟨rfl, rfl⟩
  ·exact .inr c4
  ·exact .inl ⟨_, by rw [hkp _ (by omega)]; exact List.mem_singleton.2 rfl⟩
  ·exact .inr ck
  ·exact .inr cr
 ·have hy' := List.mem_singleton.1 hy
  cases hy'
  exact ⟨100006, _, (hkp _ (by omega)).symm, c6, bytes_ren hb' _, fun h => by cases h⟩
 ·show (((putU S.heap (keptE S.next K)).set 100006 _).set 100006 _).get j = ((putU S.heap (keptE S.next K)).set 100006 _).get j
  simp only [PT.get_set]
  split <;> rfl
theorem dl_round2 {K : Kept3} {i : Nat} {x : Nat × (Nat × List Value)} (h : K[i]? = some x) (hx : P[x.1]? = some x.2) (hK : ∀ y, y ∈ K → tid (100 + 2 * y.1) < 199997) (hKl : K.length ≤ P.length)
 (hlE : ∀ k y, (k, y) ∈ keptE S.next K → k < S.next + 1 ∧ LowR (S.next + 1) y) {acc : List Value} (hb : acc.all isByte = true) (hlen : acc.length = z) :
 SB Tryz.prog S dlL2 (slZ 94 (dlH2 cut (keptV S.next K) K.length i)) (S.ups (dlE S.next K acc) (S.next + 1)) .normal (slZ 94 (dlH2 cut (keptV S.next K) K.length (i + 1)))
  (S.ups (dlE S.next K (splice acc x.2.1 (x.2.2.take (effL ((K.length : Int) - 1) cut i x.2.2.length)))) (S.next + 1)) := by
 have hn := I.p.next
 have hm := I.p.many
 have hsz := I.p.size
 have hi := (List.getElem?_eq_some_iff.1 h).1
 have hfit := I.p.fits x.2 (List.mem_of_getElem? hx)
 have hEle := effL_le ((K.length : Int) - 1) cut i x.2.2.length
 have hb' : (splice acc x.2.1 (x.2.2.take (effL ((K.length : Int) - 1) cut i x.2.2.length))).all isByte = true := splice_bytes hb (all_take_of hfit.2 _)
 have e1 : IntKind.wrap IntKind.i64 ((i : Int) + 1) = ((i + 1 : Nat) : Int) := wrapAdd (b := 1) (by omega)
 have e4 : IntKind.wrap IntKind.i64 ((K.length : Int) - 1) = (K.length : Int) - 1 := wrap64 (by omega) (by omega)
 have e5 : 0 + x.2.1 * 1 = x.2.1 := by omega
 have eT : List.take (x.2.2.length * 1) (List.drop 0 x.2.2) = x.2.2.take x.2.2.length := by simp
 have f1 : decide ((i : Int) < (K.length : Int)) = true := decide_eq_true (by omega)
 have f2 : decide ((0 : Int) ≤ (i : Int)) = true := decide_eq_true (by omega)
 have f3 : decide (0 + i * 2 + 2 ≤ (arrKS K i x.2.2.length).length) = true := decide_eq_true (by rw [arrKS_length]; omega)
 have f6 := sameK_hint h
 have g5 : decide ((x.2.1 : Int) ≤ (z : Int)) = true := decide_eq_true (by omega)
 have g6 : decide (x.2.2.length ≤ z - x.2.1) = true := decide_eq_true (by omega)
 have f8 : decide (0 + x.2.2.length * 1 ≤ x.2.2.length) = true := decide_eq_true (by omega)
 have f9 : decide (x.2.1 + (x.2.2.take x.2.2.length).length ≤ acc.length) = true := decide_eq_true (by rw [List.length_take]; omega)
 have f10 : (x.2.2.take x.2.2.length).all one = true := ones_bytes (all_take_of hfit.2 _)
 by_cases hla : (i : Int) = (K.length : Int) - 1
 ·have h1 : decide ((i : Int) = (K.length : Int) - 1) = true := decide_eq_true hla
  by_cases hc0 : 0 ≤ cut
  ·have h2 : decide (0 ≤ cut) = true := decide_eq_true hc0
   have hE : effL ((K.length : Int) - 1) cut i x.2.2.length = Int.toNat (if (x.2.2.length : Int) < cut then (x.2.2.length : Int) else cut) - 0 := by
    unfold effL
    split <;> split <;> omega
   have h3 : decide (0 ≤ if (x.2.2.length : Int) < cut then (x.2.2.length : Int) else cut) = true := decide_eq_true (by split <;> omega)
   have h4 : decide ((if (x.2.2.length : Int) < cut then (x.2.2.length : Int) else cut) ≤ (x.2.2.length : Int)) = true := decide_eq_true (by split <;> omega)
   rw [hE] at hb' hEle ⊢
   by_cases h0 : Int.toNat (if (x.2.2.length : Int) < cut then (x.2.2.length : Int) else cut) - 0 = 0
   ·have hr := dl2c0 z P.length i x.2.1 x.2.2.length 0 0 K.length cut fu df none acc (arrKS K i x.2.2.length) x.2.2
    simp only [e1, e4] at hr
    rw [h0] at hb' ⊢
    have fin0 : splice acc x.2.1 (x.2.2.take 0) = acc := by rw [List.take_zero]; unfold splice; simp
    rw [fin0] at hb' ⊢
    have f7 : decide (Int.toNat (if (x.2.2.length : Int) < cut then (x.2.2.length : Int) else cut) - 0 = 0) = true := decide_eq_true h0
    have g7 : decide (Int.toNat (if (x.2.2.length : Int) < cut then (x.2.2.length : Int) else cut) - 0 ≤ z - x.2.1) = true := decide_eq_true (by omega)
    refine dl_key2 I h hx hK hlE hb hb' _ _ _ (Runs.hpath yxZ hr ?_) rfl rfl (Nat.le_of_ble_eq_true rfl) (by kernel_rfl) (by kernel_rfl) (by kernel_rfl) (by kernel_rfl)
    simp only [f1, f2, f3, f6, f7, g5, g7, h1, h2, h3, h4]
    repeat rw [same_of]
    ·rfl
    all_goals rfl
   ·have hr := dl2c z P.length i x.2.1 x.2.2.length 0 0 K.length cut fu df none acc (arrKS K i x.2.2.length) x.2.2
    have eT2 : List.take ((Int.toNat (if (x.2.2.length : Int) < cut then (x.2.2.length : Int) else cut) - 0) * 1) (List.drop 0 x.2.2) = x.2.2.take (Int.toNat (if (x.2.2.length : Int) < cut then (x.2.2.length : Int) else cut) - 0) := by rw [Nat.mul_one, List.drop_zero]
    simp only [e1, e4, eT2, e5] at hr
    have f7 : decide (Int.toNat (if (x.2.2.length : Int) < cut then (x.2.2.length : Int) else cut) - 0 = 0) = false := decide_eq_false h0
    have g7 : decide (Int.toNat (if (x.2.2.length : Int) < cut then (x.2.2.length : Int) else cut) - 0 ≤ z - x.2.1) = true := decide_eq_true (by omega)
    have g8 : decide (0 + (Int.toNat (if (x.2.2.length : Int) < cut then (x.2.2.length : Int) else cut) - 0) * 1 ≤ x.2.2.length) = true := decide_eq_true (by omega)
    have g9 : decide (x.2.1 + (x.2.2.take (Int.toNat (if (x.2.2.length : Int) < cut then (x.2.2.length : Int) else cut) - 0)).length ≤ acc.length) = true := decide_eq_true (by rw [List.length_take]; omega)
    have g10 : (x.2.2.take (Int.toNat (if (x.2.2.length : Int) < cut then (x.2.2.length : Int) else cut) - 0)).all one = true := ones_bytes (all_take_of hfit.2 _)
    refine dl_key2 I h hx hK hlE hb hb' _ _ _ (Runs.hpath yxZ hr ?_) rfl rfl (Nat.le_of_ble_eq_true rfl) (by kernel_rfl) (by kernel_rfl) (by kernel_rfl) (by kernel_rfl)
    simp only [f1, f2, f3, f6, f7, g5, g7, g8, g9, g10, h1, h2, h3, h4]
    repeat rw [same_of]
    ·rfl
    all_goals rfl
  ·have h2 : decide (0 ≤ cut) = false := decide_eq_false hc0
   have hE : effL ((K.length : Int) - 1) cut i x.2.2.length = x.2.2.length := by unfold effL; rw [if_neg (by omega)]
   rw [hE] at hb' ⊢
   by_cases h0 : x.2.2.length = 0
   ·have hr := dl2b0 z P.length i x.2.1 x.2.2.length 0 0 K.length cut fu df none acc (arrKS K i x.2.2.length) x.2.2
    simp only [e1, e4] at hr
    have fin0 : splice acc x.2.1 (x.2.2.take x.2.2.length) = acc := by rw [List.eq_nil_of_length_eq_zero h0, List.take_nil]; unfold splice; simp
    rw [fin0] at hb' ⊢
    have f7 : decide (x.2.2.length = 0) = true := decide_eq_true h0
    refine dl_key2 I h hx hK hlE hb hb' _ _ _ (Runs.hpath yxZ hr ?_) rfl rfl (Nat.le_of_ble_eq_true rfl) (by kernel_rfl) (by kernel_rfl) (by kernel_rfl) (by kernel_rfl)
    simp only [f1, f2, f3, f6, f7, g5, g6, h1, h2]
    repeat rw [same_of]
    ·rfl
    all_goals rfl
   ·have hr := dl2b z P.length i x.2.1 x.2.2.length 0 0 K.length cut fu df none acc (arrKS K i x.2.2.length) x.2.2
    simp only [e1, e4, eT, e5] at hr
    have f7 : decide (x.2.2.length = 0) = false := decide_eq_false h0
    refine dl_key2 I h hx hK hlE hb hb' _ _ _ (Runs.hpath yxZ hr ?_) rfl rfl (Nat.le_of_ble_eq_true rfl) (by kernel_rfl) (by kernel_rfl) (by kernel_rfl) (by kernel_rfl)
    simp only [f1, f2, f3, f6, f7, f8, f9, f10, g5, g6, h1, h2]
    repeat rw [same_of]
    ·rfl
    all_goals rfl
 ·have h1 : decide ((i : Int) = (K.length : Int) - 1) = false := decide_eq_false hla
  have hE : effL ((K.length : Int) - 1) cut i x.2.2.length = x.2.2.length := by unfold effL; rw [if_neg (by omega)]
  rw [hE] at hb' ⊢
  by_cases h0 : x.2.2.length = 0
  ·have hr := dl2a0 z P.length i x.2.1 x.2.2.length 0 0 K.length cut fu df none acc (arrKS K i x.2.2.length) x.2.2
   simp only [e1, e4] at hr
   have fin0 : splice acc x.2.1 (x.2.2.take x.2.2.length) = acc := by rw [List.eq_nil_of_length_eq_zero h0, List.take_nil]; unfold splice; simp
   rw [fin0] at hb' ⊢
   have f7 : decide (x.2.2.length = 0) = true := decide_eq_true h0
   refine dl_key2 I h hx hK hlE hb hb' _ _ _ (Runs.hpath yxZ hr ?_) rfl rfl (Nat.le_of_ble_eq_true rfl) (by kernel_rfl) (by kernel_rfl) (by kernel_rfl) (by kernel_rfl)
   simp only [f1, f2, f3, f6, f7, g5, g6, h1]
   repeat rw [same_of]
   ·rfl
   all_goals rfl
  ·have hr := dl2a z P.length i x.2.1 x.2.2.length 0 0 K.length cut fu df none acc (arrKS K i x.2.2.length) x.2.2
   simp only [e1, e4, eT, e5] at hr
   have f7 : decide (x.2.2.length = 0) = false := decide_eq_false h0
   refine dl_key2 I h hx hK hlE hb hb' _ _ _ (Runs.hpath yxZ hr ?_) rfl rfl (Nat.le_of_ble_eq_true rfl) (by kernel_rfl) (by kernel_rfl) (by kernel_rfl) (by kernel_rfl)
   simp only [f1, f2, f3, f6, f7, f8, f9, f10, g5, g6, h1]
   repeat rw [same_of]
   ·rfl
   all_goals rfl
end
theorem dlPost (z k r : Nat) (cut fu : Int) (df : Bool) (kept : Value) (now las : List Value) : ycode Tryz.prog okN ycZ (kp 20) 100 (sub (codeOf Tryz.prog 20) [1,1,1,1,1]) (slZ 94 [(0, .pointer (ad 100004)), (2, .int .i64 cut), (7, kept), (40, kept), (41, .int .i64 (r : Int)), (42, .int .i64 (r : Int)), (43, .bool false)]) (ofL [(100004, dRow z k (wrV 100007 k) fu df), (100005, .row now 1 false), (100006, .row las 1 false)] 200001) [false, true] = (let x0 := [Value.slice (ad 100005) z z, Value.slice (ad 100006) z z, wrV 100007 k, Value.int .i64 fu, Value.bool df]; let x1 := List.take (z * 1) (List.drop 0 las); let x2 := List.set x0 2 (Value.slice none 0 0); some (tn 1 (tn 4 (decide (z ≤ z) && (!decide (z = 0) && tn 1 (decide (0 + z * 1 ≤ List.length las)) && tn 1 (decide (0 + List.length x1 ≤ List.length now) && tn 1 (List.all x1 one)))) && tn 1 (tn 1 (same (List.getD x0 0 undefX) (List.getD x0 0 undefX)) && tn 2 (same (List.getD x0 1 undefX) (List.getD x0 1 undefX)))) && tn 2 (tn 3 (decide (4 < List.length x2)) && tn 4 (decide (3 < List.length (List.set x2 4 (Value.bool true))))), ((XE.ret, (slZ 94 [(6, Value.int .i64 0)]), ⟨(nd (ch 15 17235 (lr (splice now 0 x1) 1 false)) (nd (ch 14 8617 (lr [Value.slice (ad 100005) z z, Value.slice (ad 100006) z z, Value.slice none 0 0, Value.int .i64 (-1), Value.bool true] 0 false)) (ch 14 8617 (lr las 1 false)))), 200010, 0⟩), []))) := by kernel_rfl
theorem Moves.wide {S : St} (b : XAct) (hl : LowSt S) : Moves S b S b (S.ups [] (S.next + 1)) := by
 refine Moves.named (π := fun j => j) ⟨fun j hj => rfl, fun j e hj => ?_, fun j k e f hj hk hjk => hjk, fun j hj => ?_, Nat.le_succ _, rfl, Nat.le_succ_of_le hl.1, fun j hj => rfl⟩ rfl (fun i v hi => ⟨v, hi, fun γ v' => Iff.rfl⟩)
 ·have hj' : S.heap.get j = some e := hj
  exact ⟨Nat.lt_succ_of_lt (hl.2 j e hj').1, e, hj', ⟨fun γ w l => Iff.rfl, rfl⟩, fun _ => ⟨rfl, rfl⟩⟩
 ·exact Nat.le_of_succ_le hj
section
variable {P : Pend} {z : Nat} {S : St} {now las : List Value} {df : Bool} {fu cut : Int} {kv : Value} {ks : List Value} {lk : Nat} (I : DLoseIn P z S now las df fu kv ks lk)
include I
theorem kept_all : (∀ y, y ∈ keptP ks lk 0 P → tid (100 + 2 * y.1) < 199997) ∧ (∀ y, y ∈ keptP ks lk 0 P → P[y.1]? = some y.2) ∧ (∀ k y, (k, y) ∈ keptE S.next (keptP ks lk 0 P) → k < S.next + 1 ∧ LowR (S.next + 1) y) := by
 have h1 := kept_tid I (i := P.length)
 have h2 := keptE_low I P.length
 rw [List.take_length] at h1 h2
 refine ⟨h1, fun y hy => ?_, h2⟩
 obtain ⟨i, hi, hp⟩ := keptP_mem _ _ _ hy
 rw [hi, Nat.zero_add]; exact hp
theorem dl_rounds2 {K : Kept3} (hKe : K = keptP ks lk 0 P) : ∀ r i, i + r = K.length → SLB Tryz.prog S (r + 1) dlL2 (slZ 94 (dlH2 cut (keptV S.next K) K.length i)) (S.ups (dlE S.next K (loseK ((K.length : Int) - 1) cut 0 (K.take i) las)) (S.next + 1)) (.exit 2) (slZ 94 (dlZ2 cut (keptV S.next K) K.length)) (S.ups (dlE S.next K (loseK ((K.length : Int) - 1) cut 0 K las)) (S.next + 1)) := by
 obtain ⟨hK, hP, hlE⟩ := kept_all I
 have hKl := keptP_len ks lk P 0
 rw [← hKe] at hK hP hlE hKl
 have hfits : ∀ x, x ∈ K → x.2.1 + x.2.2.length ≤ z := fun x hx => (I.p.fits x.2 (List.mem_of_getElem? (hP x hx))).1
 have hbytes : ∀ x, x ∈ K → x.2.2.all isByte = true := fun x hx => (I.p.fits x.2 (List.mem_of_getElem? (hP x hx))).2
 intro r
 induction r with
 | zero =>
  intro i hr
  obtain rfl : i = K.length := by omega
  rw [List.take_length]
  have hb := loseK_bytes (la := (K.length : Int) - 1) (cut := cut) K 0 las hbytes I.bytes6
  by_cases h0 : K = []
  ·subst h0
   have hr := dl2xn 0 0 0 cut none
   exact SLB.exit (SB.near2 (cl := []) (s1 := []) (m := 1) (m' := 1) callZ dlGood2 (Runs.path yxZ hr rfl) rfl I.p.low I.p.next (Nat.le_of_ble_eq_true rfl) (Nat.le_of_ble_eq_true rfl) (fun x hx => by cases hx) (fun x hx => by cases hx) (fun j => rfl) (dlE_low I hlE hb) (dlH2_ren I 199998 0 0 []) (dlZ2_ren I 199998 0 []) (dlZ2_low I _ _))
  ·have eV : ∀ w, keptV w K = .slice (some ⟨w, 0, none⟩) K.length K.length := fun w => by
    cases K with
    | nil => exact absurd rfl h0
    | cons y r => rfl
   have f1 : decide (((K.length : Nat) : Int) < (K.length : Int)) = false := decide_eq_false (by omega)
   have hr := dl2x 0 K.length 0 0 K.length cut none
   simp only [f1] at hr
   rw [← eV] at hr
   exact SLB.exit (SB.near2 (cl := []) (s1 := []) (m := 1) (m' := 1) callZ dlGood2 (Runs.path yxZ hr rfl) rfl I.p.low I.p.next (Nat.le_of_ble_eq_true rfl) (Nat.le_of_ble_eq_true rfl) (fun x hx => by cases hx) (fun x hx => by cases hx) (fun j => rfl) (dlE_low I hlE hb) (dlH2_ren I 199998 K.length K.length K) (dlZ2_ren I 199998 K.length K) (dlZ2_low I _ _))
 | succ r ih =>
  intro i hr
  have hi : i < K.length := by omega
  have h := List.getElem?_eq_getElem hi
  have ht : ∀ {n} x, x ∈ K.take n → x ∈ K := fun x hx => List.mem_of_mem_take hx
  have hs := dl_round2 (cut := cut) I h (hP _ (List.mem_of_getElem? h)) hK hKl hlE (loseK_bytes (la := (K.length : Int) - 1) (cut := cut) (K.take i) 0 las (fun x hx => hbytes x (ht x hx)) I.bytes6) (loseK_length (la := (K.length : Int) - 1) (cut := cut) (K.take i) 0 las (fun x hx => hfits x (ht x hx)) I.len6)
  rw [← loseK_take_succ h] at hs
  exact SLB.step hs (ih (i + 1) (by omega))
noncomputable abbrev dlE2 : Code := sub (codeOf Tryz.prog 20) [1,1,1,1,0,0]
noncomputable abbrev dlPo : Code := sub (codeOf Tryz.prog 20) [1,1,1,1,1]
omit I in
theorem dlGoodE2 : goodCode dlE2 = true := by kernel_rfl
omit I in
theorem dlGoodPo : goodCode dlPo = true := by kernel_rfl
theorem dl_enter2 {K : Kept3} (hlE : ∀ k y, (k, y) ∈ keptE S.next K → k < S.next + 1 ∧ LowR (S.next + 1) y) :
 SB Tryz.prog S dlE2 (slZ 94 (dlZ1 kv cut (keptV S.next K) P.length)) (S.ups (keptE S.next K) (S.next + 1)) .normal (slZ 94 (dlH2 cut (keptV S.next K) K.length 0)) (S.ups (dlE S.next K las) (S.next + 1)) := by
 have hn := I.p.next
 obtain ⟨ka, kc, hkv⟩ : ∃ ka kc, kv = .slice ka lk kc := by
  rcases I.keep.v with ⟨rfl, rfl⟩ | ⟨kc, rfl, _⟩
  ·exact ⟨_, _, rfl⟩
  ·exact ⟨_, _, rfl⟩
 have hsame : ∀ j, (putU S.heap (keptE S.next K)).get j = (putU S.heap (dlE S.next K las)).get j := fun j => by
  show _ = ((putU S.heap (keptE S.next K)).set 100006 _).get j
  rw [PT.get_set]
  split
  ·rename_i h
   subst h
   rw [keptE_ne I (by omega)]; exact I.r6
  ·rfl
 by_cases h0 : K = []
 ·subst h0
  have hr := dl2n P.length lk kc 0 cut ka
  rw [← hkv] at hr
  exact SB.near2 (cl := []) (s1 := []) (m := 1) (m' := 1) callZ dlGoodE2 (Runs.path yxZ hr rfl) rfl I.p.low hn (Nat.le_of_ble_eq_true rfl) (Nat.le_of_ble_eq_true rfl) (fun x hx => by cases hx) (fun x hx => by cases hx) hsame (dlE_low I hlE I.bytes6) (dlZ1_ren I 199998 []) (dlH2_ren I 199998 0 0 []) (dlH2_low I _ _ _)
 ·have eV : ∀ w, keptV w K = .slice (some ⟨w, 0, none⟩) K.length K.length := fun w => by
   cases K with
   | nil => exact absurd rfl h0
   | cons y r => rfl
  have hr := dl2m P.length lk kc K.length cut ka
  rw [← hkv] at hr
  simp only [← eV] at hr
  exact SB.near2 (cl := []) (s1 := []) (m := 1) (m' := 1) callZ dlGoodE2 (Runs.path yxZ hr rfl) rfl I.p.low hn (Nat.le_of_ble_eq_true rfl) (Nat.le_of_ble_eq_true rfl) (fun x hx => by cases hx) (fun x hx => by cases hx) hsame (dlE_low I hlE I.bytes6) (dlZ1_ren I 199998 K) (dlH2_ren I 199998 K.length 0 K) (dlH2_low I _ _ _)
def dlFin (z : Nat) (acc : List Value) : List (Nat × Ent) := [(100004, dRow z 0 (.slice none 0 0) (-1) true), (100005, .row acc 1 false), (100006, .row acc 1 false)]
theorem dlFin_low {acc : List Value} (hb : acc.all isByte = true) : ∀ k y, (k, y) ∈ dlFin z acc → k < S.next ∧ LowR S.next y := by
 intro k y h
 have hn := I.p.next
 simp only [dlFin, List.mem_cons, List.not_mem_nil, or_false, Prod.mk.injEq] at h
 rcases h with ⟨rfl, rfl⟩ | ⟨rfl, rfl⟩ | ⟨rfl, rfl⟩
 ·exact ⟨by omega, fun π hk => lowE_ren (m := 199997) (hk.mono (by omega)) (by kernel_rfl)⟩
 ·exact ⟨by omega, fun π _ => bytes_ren hb π⟩
 ·exact ⟨by omega, fun π _ => bytes_ren hb π⟩
theorem dl_post {K : Kept3} {acc : List Value} (hb : acc.all isByte = true) (hlen : acc.length = z) :
 SB Tryz.prog S dlPo (slZ 94 (dlZ2 cut (keptV S.next K) K.length)) (S.ups (dlE S.next K acc) (S.next + 1)) .ret (slZ 94 [(6, .int .i64 0)]) (S.ups (dlFin z acc) S.next) := by
 have hn := I.p.next
 have hz := I.z0
 have hl5 := I.len5
 have key : ∀ (L : List (Nat × Ent)) (N : Nat) (C' : St), Runs Tryz.prog okN (xgoO Tryz.prog okN orcZ kp 100) (kp 20) dlPo (slZ 94 (dlZ2 cut (keptV 200000 K) K.length)) (ofL L N) .ret (slZ 94 [(6, .int .i64 0)]) C' →
  L = [(100004, dRow z P.length (wrV 100007 P.length) fu df), (100005, .row now 1 false), (100006, .row acc 1 false)] → N = 200000 + 1 → 200001 ≤ C'.next →
  C'.heap.get 100004 = some (dRow z 0 (.slice none 0 0) (-1) true) → C'.heap.get 100005 = some (.row acc 1 false) → C'.heap.get 100006 = some (.row acc 1 false) →
  SB Tryz.prog S dlPo (slZ 94 (dlZ2 cut (keptV S.next K) K.length)) (S.ups (dlE S.next K acc) (S.next + 1)) .ret (slZ 94 [(6, .int .i64 0)]) (S.ups (dlFin z acc) S.next) := by
  intro L N C' hrun hL hN hn' c4 c5 c6
  have hkp := piF_keeps 199998 S.next
  have mem : ∀ j y, (ofL L N).heap.get j = some y → (j = 100004 ∧ y = dRow z P.length (wrV 100007 P.length) fu df) ∨ (j = 100005 ∧ y = .row now 1 false) ∨ (j = 100006 ∧ y = .row acc 1 false) := fun j y h => by
   rcases get_putL _ .leaf j y h with h1 | h1
   ·simp [PT.get] at h1
   ·rw [hL] at h1
    simpa only [List.mem_cons, List.not_mem_nil, or_false, Prod.mk.injEq] using h1
  have g6 : (putU S.heap (dlE S.next K acc)).get 100006 = some (.row acc 1 false) := by
   show ((putU S.heap (keptE S.next K)).set 100006 _).get 100006 = _
   rw [PT.get_set_same]
  have h3 : SB Tryz.prog S dlPo (slZ 94 (dlZ2 cut (keptV S.next K) K.length)) (S.ups (dlE S.next K acc) (S.next + 1)) .ret (slZ 94 [(6, .int .i64 0)]) (S.ups (dlFin z acc) (S.next + 1 + (C'.next - N))) := by
   refine SB.small3 (m := 1) callZ dlGoodPo hrun 199998 I.p.low hn (by omega) hN rfl (fun j x hj => ?_) (fun k y hk hlt => ?_) (fun j x hj => ?_) (fun k y hk => ?_) (dlZ2_ren I _ _ _) (SlRen.slZ ⟨rfl, low_ren hkp rfl, trivial⟩)
   ·rcases mem j x hj with ⟨rfl, rfl⟩ | ⟨rfl, rfl⟩ | ⟨rfl, rfl⟩
    ·exact ⟨by omega, _, by rw [hkp _ (by omega), dlE_ne I (by omega) (by omega)]; exact I.r4, lowE_ren hkp (by kernel_rfl)⟩
    ·exact ⟨by omega, _, by rw [hkp _ (by omega), dlE_ne I (by omega) (by omega)]; exact I.r5, bytes_ren I.bytes5 _⟩
    ·exact ⟨by omega, _, by rw [hkp _ (by omega)]; exact g6, bytes_ren hb _⟩
   ·rcases List.mem_cons.1 hk with h | h
    ·cases h
     exact ⟨_, by simp [dlFin]; rfl⟩
    ·exfalso
     cases K with
     | nil => cases h
     | cons y r =>
      simp only [keptE, List.mem_cons, List.not_mem_nil, or_false, Prod.mk.injEq] at h
      omega
   ·rcases mem j x hj with ⟨rfl, rfl⟩ | ⟨rfl, rfl⟩ | ⟨rfl, rfl⟩
    ·exact .inl ⟨_, by rw [hkp _ (by omega)]; exact List.mem_cons_self⟩
    ·exact .inl ⟨_, by rw [hkp _ (by omega)]; exact List.mem_cons_of_mem _ List.mem_cons_self⟩
    ·exact .inl ⟨_, by rw [hkp _ (by omega)]; exact List.mem_cons_of_mem _ (List.mem_cons_of_mem _ List.mem_cons_self)⟩
   ·simp only [dlFin, List.mem_cons, List.not_mem_nil, or_false, Prod.mk.injEq] at hk
    rcases hk with ⟨rfl, rfl⟩ | ⟨rfl, rfl⟩ | ⟨rfl, rfl⟩
    ·exact .inl ⟨100004, _, (hkp _ (by omega)).symm, c4, lowE_ren hkp (by kernel_rfl), rfl⟩
    ·exact .inl ⟨100005, _, (hkp _ (by omega)).symm, c5, bytes_ren hb _, rfl⟩
    ·exact .inl ⟨100006, _, (hkp _ (by omega)).symm, c6, bytes_ren hb _, rfl⟩
  refine h3.moves (Moves.back2 I.p.low (Nat.le_refl _) (by omega) (dlFin_low I hb) (fun j => rfl) rfl (fun i v hi => ⟨hi, fun π hk => slZ_low (m := 199997) rfl i v hi π (hk.mono (by omega))⟩))
 have eT : List.take (z * 1) (List.drop 0 acc) = acc := by rw [List.drop_zero, List.take_of_length_le (by omega)]
 have eS : splice now 0 acc = acc := by
  unfold splice
  simp [hl5, hlen]
 have hr := dlPost z P.length K.length cut fu df (keptV 200000 K) now acc
 simp only [eT, eS] at hr
 have g1 : decide (z ≤ z) = true := decide_eq_true (Nat.le_refl _)
 have g2 : decide (z = 0) = false := decide_eq_false (by omega)
 have g3 : decide (0 + z * 1 ≤ acc.length) = true := decide_eq_true (by omega)
 have g4 : decide (0 + acc.length ≤ now.length) = true := decide_eq_true (by omega)
 have g5 : acc.all one = true := ones_bytes hb
 refine key _ _ _ (Runs.path yxZ hr ?_) rfl rfl (Nat.le_of_ble_eq_true rfl) (by kernel_rfl) (by kernel_rfl) (by kernel_rfl)
 simp only [g1, g2, g3, g4, g5]
 repeat rw [same_of]
 ·rfl
 all_goals rfl
end
end Go.Xe
