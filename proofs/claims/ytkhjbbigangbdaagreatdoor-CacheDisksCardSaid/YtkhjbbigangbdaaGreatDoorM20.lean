/- A part of the proof. -/
import Derived.Test.YtkhjbbigangbdaaGreatDoorM13
import Derived.Test.YtkhjbbigangbdaaGreatDoorM14
import Derived.Test.YtkhjbbigangbdaaGreatDoorM19
set_option linter.all false
namespace Go.Xe
open Go Go.Proofs
abbrev Kept3 := List (Nat × (Nat × List Value))
def keptP (ks : List Value) (lk : Nat) : Nat → Pend → Kept3
 | _, [] => []
 | j, p :: r => if keepB ks lk j then (j, p) :: keptP ks lk (j + 1) r else keptP ks lk (j + 1) r
def arrK : Kept3 → List Value
 | [] => []
 | x :: r => .int .i64 (x.2.1 : Int) :: .slice (some ⟨tid (100 + 2 * x.1), 0, none⟩) x.2.2.length x.2.2.length :: arrK r
theorem arrK_length : ∀ (K : Kept3), (arrK K).length = 2 * K.length
 | [] => rfl
 | x :: r => by simp only [arrK, List.length_cons, arrK_length r]; omega
theorem arrK_append : ∀ (K L : Kept3), arrK (K ++ L) = arrK K ++ arrK L
 | [], L => rfl
 | x :: r, L => by simp only [List.cons_append, arrK, arrK_append r L]
theorem keptP_append (ks : List Value) (lk : Nat) : ∀ (P Q : Pend) (j : Nat), keptP ks lk j (P ++ Q) = keptP ks lk j P ++ keptP ks lk (j + P.length) Q
 | [], Q, j => rfl
 | p :: r, Q, j => by
  have h := keptP_append ks lk r Q (j + 1)
  rw [show j + 1 + r.length = j + (p :: r).length by simp only [List.length_cons]; omega] at h
  simp only [List.cons_append, keptP]
  split
  ·rw [h]; rfl
  ·exact h
theorem keptP_succ {ks : List Value} {lk : Nat} {P : Pend} {i : Nat} {p : Nat × List Value} (h : P[i]? = some p) :
 keptP ks lk 0 (P.take (i + 1)) = keptP ks lk 0 (P.take i) ++ (if keepB ks lk i then [(i, p)] else []) := by
 have hi := (List.getElem?_eq_some_iff.1 h).1
 have e : P.take (i + 1) = P.take i ++ [p] := by rw [List.take_add_one, h]; rfl
 rw [e, keptP_append, List.length_take, Nat.zero_add, Nat.min_eq_left (by omega)]
 simp only [keptP]
theorem keptP_mem {ks : List Value} {lk : Nat} : ∀ (P : Pend) (j : Nat) x, x ∈ keptP ks lk j P → ∃ i, x.1 = j + i ∧ P[i]? = some x.2
 | [], j, x, h => by cases h
 | p :: r, j, x, h => by
  simp only [keptP] at h
  have rest : x ∈ keptP ks lk (j + 1) r → ∃ i, x.1 = j + i ∧ (p :: r)[i]? = some x.2 := fun h => by
   obtain ⟨i, h1, h2⟩ := keptP_mem r (j + 1) x h
   exact ⟨i + 1, by omega, by simpa using h2⟩
  split at h
  ·rcases List.mem_cons.1 h with rfl | h
   ·exact ⟨0, rfl, rfl⟩
   ·exact rest h
  ·exact rest h
theorem arrK_low {m : Nat} : ∀ (K : Kept3), (∀ x, x ∈ K → tid (100 + 2 * x.1) < m) → (arrK K).all (low1 m) = true
 | [], _ => rfl
 | x :: r, h => by
  have hlt := h x (by simp)
  simp only [arrK, List.all_cons, arrK_low r (fun y hy => h y (by simp [hy])), Bool.and_true]
  simp only [low1, plain1, decide_eq_true hlt, Bool.and_self]
theorem arrK_one : ∀ (K : Kept3), (arrK K).all one = true
 | [] => rfl
 | x :: r => by
  simp only [arrK, List.all_cons, arrK_one r, Bool.and_true]
  rfl
noncomputable abbrev dlL1 : Code := sub (codeOf Tryz.prog 20) [1,1,1,0,1,0,0]
theorem dlGood1 : goodCode dlL1 = true := by kernel_rfl
structure DLoseIn (P : Pend) (z : Nat) (S : St) (now las : List Value) (df : Bool) (fu : Int) (kv : Value) (ks : List Value) (lk : Nat) : Prop where
 p : PCond 0 P z S
 r4 : S.heap.get 100004 = some (dRow z P.length (wrV 100007 P.length) fu df)
 r5 : S.heap.get 100005 = some (.row now 1 false)
 r6 : S.heap.get 100006 = some (.row las 1 false)
 r7 : S.heap.get 100007 = some (.row (arrC 0 0 P) 2 false)
 len5 : now.length = z
 len6 : las.length = z
 bytes5 : now.all isByte = true
 bytes6 : las.all isByte = true
 z0 : 0 < z
 keep : KeepIn S kv ks lk
def keptV (x : Nat) (K : Kept3) : Value := match K with
 | [] => .slice none 0 0
 | y :: r => .slice (some ⟨x, 0, none⟩) (y :: r).length (y :: r).length
def keptE (x : Nat) (K : Kept3) : List (Nat × Ent) := match K with
 | [] => []
 | y :: r => [(x, .row (arrK (y :: r)) 2 false)]
def dlH1 (kv : Value) (cut : Int) (kept : Value) (k i : Nat) : List (Nat × Value) := [(0, Value.pointer (some { block := 100004, off := 0 : Addr })), (1, kv), (2, .int .i64 cut), (7, kept), (18, Value.slice (some { block := 100007, off := 0 : Addr }) k k), (19, .int .i64 (k : Int)), (20, .int .i64 (i : Int))]
section
variable {P : Pend} {z : Nat} {S : St} {now las : List Value} {df : Bool} {fu cut : Int} {kv : Value} {ks : List Value} {lk : Nat} (I : DLoseIn P z S now las df fu kv ks lk)
include I
theorem kept_tid {i : Nat} : ∀ x, x ∈ keptP ks lk 0 (P.take i) → tid (100 + 2 * x.1) < 199997 := fun x hx => by
 obtain ⟨j, h1, h2⟩ := keptP_mem _ _ x hx
 have hj := (List.getElem?_eq_some_iff.1 h2).1
 rw [List.length_take] at hj
 have := I.p.many
 unfold tid; omega
theorem keptE_low (i : Nat) : ∀ k y, (k, y) ∈ keptE S.next (keptP ks lk 0 (P.take i)) → k < S.next + 1 ∧ LowR (S.next + 1) y := by
 intro k y h
 have hn := I.p.next
 have ht := kept_tid I (i := i)
 cases hK : keptP ks lk 0 (P.take i) with
 | nil => rw [hK] at h; cases h
 | cons x r =>
  rw [hK] at h ht
  simp only [keptE, List.mem_cons, List.not_mem_nil, or_false, Prod.mk.injEq] at h
  obtain ⟨rfl, rfl⟩ := h
  exact ⟨by omega, fun π hk => .row (low1s_ren (hk.mono (by omega)) (arrK_low _ ht))⟩
theorem keptE_ne {K : Kept3} {j : Nat} (h : j < S.next) : (putU S.heap (keptE S.next K)).get j = S.heap.get j := by
 cases K with
 | nil => rfl
 | cons y r => simp only [keptE, putU]; rw [PT.get_set_ne _ _ (by omega)]
theorem keptV_ren (t : Nat) (K : Kept3) : RenV (piF t S.next) (keptV 200000 K) (keptV S.next K) := by
 cases K with
 | nil => exact low_ren (piF_keeps t S.next) rfl
 | cons y r => exact ren_row (j := 0)
theorem keptV_low (K : Kept3) (π : Nat → Nat) (hk : Keeps (S.next + 1) π) : RenV π (keptV S.next K) (keptV S.next K) := by
 cases K with
 | nil => exact low_ren hk rfl
 | cons y r =>
  have := RenV.slice (π := π) S.next 0 (y :: r).length (y :: r).length
  rw [hk S.next (by omega)] at this
  exact this
theorem dlH1_ren (t i : Nat) (K : Kept3) : SlRen (piF t S.next) (slZ 94 (dlH1 kv cut (keptV 200000 K) P.length i)) (slZ 94 (dlH1 kv cut (keptV S.next K) P.length i)) := by
 have hk := piF_keeps t S.next
 exact SlRen.slZ ⟨rfl, low_ren hk rfl, rfl, low_ren hk I.keep.low, rfl, low_ren hk rfl, rfl, keptV_ren I t K, rfl, low_ren hk rfl, rfl, low_ren hk rfl, rfl, low_ren hk rfl, trivial⟩
theorem dlH1_low (i : Nat) (K : Kept3) : ∀ j v, slot (slZ 94 (dlH1 kv cut (keptV S.next K) P.length i)) j = some v → ∀ π, Keeps (S.next + 1) π → RenV π v v := fun j v h π hk => by
 have hn := I.p.next
 have h1 := slot_slZ h
 have hk' : Keeps 199997 π := hk.mono (by omega)
 simp only [dlH1, List.mem_cons, List.not_mem_nil, or_false, Prod.mk.injEq] at h1
 rcases h1 with ⟨rfl, rfl⟩ | ⟨rfl, rfl⟩ | ⟨rfl, rfl⟩ | ⟨rfl, rfl⟩ | ⟨rfl, rfl⟩ | ⟨rfl, rfl⟩ | ⟨rfl, rfl⟩
 ·exact low_ren hk' rfl
 ·exact low_ren hk' I.keep.low
 ·exact low_ren hk' rfl
 ·exact keptV_low I K π hk
 ·exact low_ren hk' rfl
 ·exact low_ren hk' rfl
 ·exact low_ren hk' rfl
theorem dl_skip {i : Nat} {p : Nat × List Value} (h : P[i]? = some p) (hkb : keepB ks lk i = false) (K : Kept3) (hlow : ∀ k y, (k, y) ∈ keptE S.next K → k < S.next + 1 ∧ LowR (S.next + 1) y) :
 SB Tryz.prog S dlL1 (slZ 94 (dlH1 kv cut (keptV S.next K) P.length i)) (S.ups (keptE S.next K) (S.next + 1)) .normal (slZ 94 (dlH1 kv cut (keptV S.next K) P.length (i + 1))) (S.ups (keptE S.next K) (S.next + 1)) := by
 have hi := (List.getElem?_eq_some_iff.1 h).1
 have hm := I.p.many
 have hn := I.p.next
 have ht := tid_lt (i := i) (q := 0) (by omega) (by omega)
 have hmod := tid_mod (100 + 2 * i + 0)
 have e1 : IntKind.wrap IntKind.i64 ((i : Int) + 1) = ((i + 1 : Nat) : Int) := wrapAdd (b := 1) (by omega)
 have f1 : decide ((i : Int) < (P.length : Int)) = true := decide_eq_true (by omega)
 have f2 : decide ((0 : Int) ≤ (i : Int)) = true := decide_eq_true (by omega)
 have f3 : decide (0 + i * 2 + 2 ≤ (arrS 0 P i p.2.length).length) = true := decide_eq_true (by rw [arrS_length]; omega)
 have f6 := same_hint (q := 0) h
 have key : ∀ (cl : List (Nat × Ent)) (C' : St), Runs Tryz.prog okN (xgoO Tryz.prog okN orcZ kp 100) (kp 20) dlL1 (slZ 94 (dlH1 kv cut (keptV 200000 K) P.length i)) (ofL (cl ++ [(100007, .row (arrS 0 P i p.2.length) 2 false), (199997, .row p.2 1 false)]) 200001) .normal (slZ 94 (dlH1 kv cut (keptV 200000 K) P.length (i + 1))) C' →
  200001 ≤ C'.next → (∀ x, x ∈ cl → x = (199990, .row ks 1 true) ∧ S.heap.get 199990 = some (.row ks 1 true) ∧ C'.heap.get 199990 = some (.row ks 1 true)) →
  C'.heap.get 100007 = some (.row (arrS 0 P i p.2.length) 2 false) → C'.heap.get 199997 = some (.row p.2 1 false) →
  SB Tryz.prog S dlL1 (slZ 94 (dlH1 kv cut (keptV S.next K) P.length i)) (S.ups (keptE S.next K) (S.next + 1)) .normal (slZ 94 (dlH1 kv cut (keptV S.next K) P.length (i + 1))) (S.ups (keptE S.next K) (S.next + 1)) := by
  intro cl C' hrun hn' hcl ca cr
  refine SB.elem2 (cl := cl) (m := 1) (m' := 1) (s1 := []) I.p (by omega) h (by omega) callZ dlGood1 hrun rfl rfl hn' (by omega) (by rw [keptE_ne I (by omega)]; exact I.r7) (by rw [keptE_ne I (by omega)]; exact I.p.rows i p h) (by omega) ca cr (fun x hx => ?_) (fun x hx => by cases hx) (fun j => rfl) hlow (dlH1_ren I _ _ _) (dlH1_ren I _ _ _) (dlH1_low I _ _)
  obtain ⟨rfl, hg, hc⟩ := hcl x hx
  exact ⟨.inl ⟨Nat.le_of_ble_eq_true rfl, (show 199990 % 1024 ≠ 1022 by decide)⟩, by rw [piF_keeps _ _ _ (Nat.le_of_ble_eq_true rfl), keptE_ne I (show 199990 < S.next by omega)]; exact hg, fun π _ => bools_ren I.keep.bools π, .inr hc⟩
 by_cases hk : i < lk
 ·obtain ⟨kc, rfl, hrow⟩ : ∃ kc, kv = .slice (some ⟨199990, 0, none⟩) lk kc ∧ S.heap.get 199990 = some (.row ks 1 true) := by
   rcases I.keep.v with ⟨_, h⟩ | h
   ·omega
   ·exact h
  have hle := I.keep.le
  have g1 : decide ((i : Int) < (lk : Int)) = true := decide_eq_true (by omega)
  have e2 : 0 + i * 1 = i := by omega
  have g3 : decide (i < ks.length) = true := decide_eq_true (by omega)
  have g4 := bool_at I.keep.bools (show i < ks.length by omega)
  have hb : boolOf (ks.getD i undefX) = false := by simpa [keepB, hk] using hkb
  have hr := dl1b P.length i p.1 p.2.length lk kc cut (keptV 200000 K) ks (arrS 0 P i p.2.length) p.2
  simp only [e1, e2] at hr
  refine key [(199990, .row ks 1 true)] _ (Runs.hpath yxZ hr ?_) (Nat.le_of_ble_eq_true rfl) (fun x hx => ?_) (by kernel_rfl) (by kernel_rfl)
  ·simp only [f1, f2, f3, f6, g1, g3, g4, hb]; rfl
  ·obtain rfl := List.mem_singleton.1 hx
   exact ⟨rfl, hrow, by kernel_rfl⟩
 ·obtain ⟨ka, kc, hkv⟩ : ∃ ka kc, kv = .slice ka lk kc := by
   rcases I.keep.v with ⟨rfl, rfl⟩ | ⟨kc, rfl, _⟩
   ·exact ⟨_, _, rfl⟩
   ·exact ⟨_, _, rfl⟩
  have g1 : decide ((i : Int) < (lk : Int)) = false := decide_eq_false (by omega)
  have hr := dl1c P.length i p.1 p.2.length lk kc cut ka (keptV 200000 K) (arrS 0 P i p.2.length) p.2
  simp only [e1] at hr
  rw [← hkv] at hr
  refine key [] _ (Runs.hpath yxZ hr ?_) (Nat.le_of_ble_eq_true rfl) (fun x hx => by cases hx) (by kernel_rfl) (by kernel_rfl)
  simp only [f1, f2, f3, f6, g1]; rfl
theorem dl_keep {i : Nat} {p : Nat × List Value} (h : P[i]? = some p) (hkb : keepB ks lk i = true) (K : Kept3) (hK : ∀ x, x ∈ K → tid (100 + 2 * x.1) < 199997) (hKl : K.length ≤ i) :
 SB Tryz.prog S dlL1 (slZ 94 (dlH1 kv cut (keptV S.next K) P.length i)) (S.ups (keptE S.next K) (S.next + 1)) .normal (slZ 94 (dlH1 kv cut (keptV S.next (K ++ [(i, p)])) P.length (i + 1))) (S.ups (keptE S.next (K ++ [(i, p)])) (S.next + 1)) := by
 have hi := (List.getElem?_eq_some_iff.1 h).1
 have hm := I.p.many
 have hn := I.p.next
 have ht := tid_lt (i := i) (q := 0) (by omega) (by omega)
 have hmod := tid_mod (100 + 2 * i + 0)
 have hfit := I.p.fits p (List.mem_of_getElem? h)
 have e1 : IntKind.wrap IntKind.i64 ((i : Int) + 1) = ((i + 1 : Nat) : Int) := wrapAdd (b := 1) (by omega)
 have f1 : decide ((i : Int) < (P.length : Int)) = true := decide_eq_true (by omega)
 have f2 : decide ((0 : Int) ≤ (i : Int)) = true := decide_eq_true (by omega)
 have f3 : decide (0 + i * 2 + 2 ≤ (arrS 0 P i p.2.length).length) = true := decide_eq_true (by rw [arrS_length]; omega)
 have f6 := same_hint (q := 0) h
 have hk : i < lk := by
  simp only [keepB, Bool.and_eq_true, decide_eq_true_eq] at hkb
  exact hkb.1
 obtain ⟨kc, rfl, hrow⟩ : ∃ kc, kv = .slice (some ⟨199990, 0, none⟩) lk kc ∧ S.heap.get 199990 = some (.row ks 1 true) := by
  rcases I.keep.v with ⟨_, h⟩ | h
  ·omega
  ·exact h
 have hle := I.keep.le
 have g1 : decide ((i : Int) < (lk : Int)) = true := decide_eq_true (by omega)
 have e2 : 0 + i * 1 = i := by omega
 have g3 : decide (i < ks.length) = true := decide_eq_true (by omega)
 have g4 := bool_at I.keep.bools (show i < ks.length by omega)
 have hb : boolOf (ks.getD i undefX) = true := by simpa [keepB, hk] using hkb
 have eE : ∀ x, keptE x (K ++ [(i, p)]) = [(x, .row (arrK (K ++ [(i, p)])) 2 false)] := fun x => by cases K <;> rfl
 have eV : ∀ x, keptV x (K ++ [(i, p)]) = .slice (some ⟨x, 0, none⟩) (K.length + 1) (K.length + 1) := fun x => by
  cases K with
  | nil => rfl
  | cons y r => simp only [List.cons_append, keptV, List.length_cons, List.length_append, List.length_nil]
 have hK' : ∀ x, x ∈ K ++ [(i, p)] → tid (100 + 2 * x.1) < 199997 := fun x hx => by
  rcases List.mem_append.1 hx with hx | hx
  ·exact hK x hx
  ·obtain rfl := List.mem_singleton.1 hx
   exact ht
 let T := tid (100 + 2 * i + 0)
 have key : ∀ (L : List (Nat × Ent)) (N : Nat) (kv0 : Value) (C' : St), Runs Tryz.prog okN (xgoO Tryz.prog okN orcZ kp 100) (kp 20) dlL1 (slZ 94 (dlH1 (.slice (some ⟨199990, 0, none⟩) lk kc) cut kv0 P.length i)) (ofL L N) .normal (slZ 94 (dlH1 (.slice (some ⟨199990, 0, none⟩) lk kc) cut (.slice (some ⟨200003, 0, none⟩) (K.length + 1) (K.length + 1)) P.length (i + 1))) C' →
  N = 200000 + 1 → kv0 = keptV 200000 K → L = [(199990, .row ks 1 true), (100007, .row (arrS 0 P i p.2.length) 2 false), (199997, .row p.2 1 false)] ++ keptE 200000 K → C'.next = 200004 →
  C'.heap.get 199990 = some (.row ks 1 true) → C'.heap.get 100007 = some (.row (arrS 0 P i p.2.length) 2 false) → C'.heap.get 199997 = some (.row p.2 1 false) →
  C'.heap.get 200003 = some (.row (arrK K ++ [.int .i64 (p.1 : Int), .slice (some ⟨199997, 0, none⟩) p.2.length p.2.length]) 2 false) →
  SB Tryz.prog S dlL1 (slZ 94 (dlH1 (.slice (some ⟨199990, 0, none⟩) lk kc) cut (keptV S.next K) P.length i)) (S.ups (keptE S.next K) (S.next + 1)) .normal (slZ 94 (dlH1 (.slice (some ⟨199990, 0, none⟩) lk kc) cut (keptV S.next (K ++ [(i, p)])) P.length (i + 1))) (S.ups (keptE S.next (K ++ [(i, p)])) (S.next + 1)) := by
  intro L N kv0 C' hrun hN hkv0 hL hn' ck ca cr c3
  subst hkv0
  have hkp := piF_keeps T S.next
  have p0 : piF T S.next 200000 = S.next := piF_new T S.next 0
  have p3 : piF T S.next 200003 = S.next + 3 := piF_new T S.next 3
  have p7 : piF T S.next 199997 = T := by unfold piF; rw [if_pos rfl]
  have mem : ∀ j x, (ofL L N).heap.get j = some x →
   (j = 199990 ∧ x = .row ks 1 true) ∨ (j = 100007 ∧ x = .row (arrS 0 P i p.2.length) 2 false) ∨ (j = 199997 ∧ x = .row p.2 1 false) ∨ (j = 200000 ∧ x = .row (arrK K) 2 false ∧ K ≠ []) := fun j x h => by
   rcases get_putL _ .leaf j x h with h1 | h1
   ·simp [PT.get] at h1
   ·rw [hL] at h1
    simp only [List.mem_append, List.mem_cons, List.not_mem_nil, or_false, Prod.mk.injEq] at h1
    rcases h1 with (h1 | h1 | h1) | h1
    ·exact .inl h1
    ·exact .inr (.inl h1)
    ·exact .inr (.inr (.inl h1))
    ·refine .inr (.inr (.inr ?_))
     cases K with
     | nil => cases h1
     | cons y r =>
      simp only [keptE, List.mem_cons, List.not_mem_nil, or_false, Prod.mk.injEq] at h1
      exact ⟨h1.1, h1.2, by simp⟩
  have h3 : SB Tryz.prog S dlL1 (slZ 94 (dlH1 (.slice (some ⟨199990, 0, none⟩) lk kc) cut (keptV S.next K) P.length i)) (S.ups (keptE S.next K) (S.next + 1)) .normal (slZ 94 (dlH1 (.slice (some ⟨199990, 0, none⟩) lk kc) cut (.slice (some ⟨S.next + 3, 0, none⟩) (K.length + 1) (K.length + 1)) P.length (i + 1))) (S.ups [(S.next + 3, .row (arrK (K ++ [(i, p)])) 2 false)] (S.next + 1 + (C'.next - N))) := by
   refine SB.small3 (m := 1) callZ dlGood1 hrun T I.p.low hn (by omega) hN rfl (fun j x hj => ?_) (fun k y hk hlt => ?_) (fun j x hj => ?_) (fun k y hk => ?_) (dlH1_ren I _ _ _) ?_
   ·rcases mem j x hj with ⟨rfl, rfl⟩ | ⟨rfl, rfl⟩ | ⟨rfl, rfl⟩ | ⟨rfl, rfl, h0⟩
    ·exact ⟨by omega, _, by rw [hkp _ (by omega), keptE_ne I (by omega)]; exact hrow, bools_ren I.keep.bools _⟩
    ·exact ⟨by omega, _, by rw [hkp _ (by omega), keptE_ne I (by omega)]; exact I.r7, .row (arrS_ren I.p (by omega) h)⟩
    ·exact ⟨by omega, _, by rw [p7, keptE_ne I (by omega)]; exact I.p.rows i p h, bytes_ren hfit.2 _⟩
    ·refine ⟨by omega, .row (arrK K) 2 false, ?_, .row (low1s_ren hkp (arrK_low K hK))⟩
     rw [p0]
     cases K with
     | nil => exact absurd rfl h0
     | cons y r => simp only [keptE, putU]; rw [PT.get_set_same]
   ·cases K with
    | nil => cases hk
    | cons y r =>
     simp only [keptE, List.mem_cons, List.not_mem_nil, or_false, Prod.mk.injEq] at hk
     omega
   ·rcases mem j x hj with ⟨rfl, rfl⟩ | ⟨rfl, rfl⟩ | ⟨rfl, rfl⟩ | ⟨rfl, rfl, h0⟩
    ·exact .inr (.inl ck)
    ·exact .inr (.inl ca)
    ·exact .inr (.inl cr)
    ·exact .inr (.inr (by omega))
   ·simp only [List.mem_cons, List.not_mem_nil, or_false, Prod.mk.injEq] at hk
    obtain ⟨rfl, rfl⟩ := hk
    refine .inl ⟨200003, _, p3.symm, c3, ?_, rfl⟩
    rw [arrK_append]
    refine .row (RenL.append (low1s_ren hkp (arrK_low K hK)) (RenL.cons (low_ren hkp rfl) (RenL.cons ?_ RenL.nil)))
    have := RenV.slice (π := piF T S.next) 199997 0 p.2.length p.2.length
    rw [p7] at this
    exact this
   ·have := RenV.slice (π := piF T S.next) 200003 0 (K.length + 1) (K.length + 1)
    rw [p3] at this
    exact SlRen.slZ ⟨rfl, low_ren hkp rfl, rfl, low_ren hkp rfl, rfl, low_ren hkp rfl, rfl, this, rfl, low_ren hkp rfl, rfl, low_ren hkp rfl, rfl, low_ren hkp rfl, trivial⟩
  rw [show S.next + 1 + (C'.next - N) = S.next + 4 by omega] at h3
  rw [eE, eV]
  have hπ : Keeps 199997 (fun j => if j = S.next then S.next + 3 else if j < S.next then j else S.next + 4 + j) := fun j hj => by
   show (if j = S.next then S.next + 3 else if j < S.next then j else S.next + 4 + j) = j
   rw [if_neg (by omega), if_pos (by omega)]
  have hsl : SlRen (fun j => if j = S.next then S.next + 3 else if j < S.next then j else S.next + 4 + j) (slZ 94 (dlH1 (.slice (some ⟨199990, 0, none⟩) lk kc) cut (.slice (some ⟨S.next, 0, none⟩) (K.length + 1) (K.length + 1)) P.length (i + 1))) (slZ 94 (dlH1 (.slice (some ⟨199990, 0, none⟩) lk kc) cut (.slice (some ⟨S.next + 3, 0, none⟩) (K.length + 1) (K.length + 1)) P.length (i + 1))) := by
   have := RenV.slice (π := fun j => if j = S.next then S.next + 3 else if j < S.next then j else S.next + 4 + j) S.next 0 (K.length + 1) (K.length + 1)
   simp only [if_true] at this
   exact SlRen.slZ ⟨rfl, low_ren hπ rfl, rfl, low_ren hπ rfl, rfl, low_ren hπ rfl, rfl, this, rfl, low_ren hπ rfl, rfl, low_ren hπ rfl, rfl, low_ren hπ rfl, trivial⟩
  exact h3.moves (Moves.first I.p.low (by omega) (by omega) (fun π hk => .row (low1s_ren (hk.mono (by omega)) (arrK_low _ hK'))) hsl.1 hsl.2.1)
 by_cases h0 : K = []
 ·subst h0
  have hr := dl1n P.length i p.1 p.2.length lk kc 0 cut ks (arrS 0 P i p.2.length) p.2 []
  simp only [e1, e2] at hr
  refine key _ _ _ _ (Runs.hpath yxZ hr ?_) rfl rfl rfl rfl (by kernel_rfl) (by kernel_rfl) (by kernel_rfl) (by kernel_rfl)
  simp only [f1, f2, f3, f6, g1, g3, g4, hb]; rfl
 ·have eE0 : keptE 200000 K = [(200000, .row (arrK K) 2 false)] := by
   cases K with
   | nil => exact absurd rfl h0
   | cons y r => rfl
  have eV0 : keptV 200000 K = .slice (some ⟨200000, 0, none⟩) K.length K.length := by
   cases K with
   | nil => exact absurd rfl h0
   | cons y r => rfl
  have hr := dl1m P.length i p.1 p.2.length lk kc K.length cut ks (arrS 0 P i p.2.length) p.2 (arrK K)
  have e3 : List.take (K.length * 2) (List.drop 0 (arrK K)) = arrK K := by
   rw [List.drop_zero, List.take_of_length_le (by rw [arrK_length]; omega)]
  simp only [e1, e2, e3] at hr
  have q1 : decide (K.length ≤ K.length) = true := decide_eq_true (Nat.le_refl _)
  have q2 : decide (K.length + 1 ≤ K.length) = false := decide_eq_false (by omega)
  have q3 : decide ((K.length + 1) * 32 ≤ 140737488355328) = true := decide_eq_true (by omega)
  have q4 : decide (K.length + 1 ≤ 9223372036854775807) = true := decide_eq_true (by omega)
  have q5 : decide (0 + K.length * 2 ≤ (arrK K).length) = true := decide_eq_true (by rw [arrK_length]; omega)
  have q6 := arrK_one K
  refine key _ _ _ _ (Runs.hpath yxZ hr ?_) rfl eV0.symm (by rw [eE0]; rfl) rfl (by kernel_rfl) (by kernel_rfl) (by kernel_rfl) (by kernel_rfl)
  simp only [f1, f2, f3, f6, g1, g3, g4, hb, q1, q2, q3, q4, q5, List.all_append, q6]; rfl
omit I in
theorem keptP_len (ks : List Value) (lk : Nat) : ∀ (P : Pend) (j : Nat), (keptP ks lk j P).length ≤ P.length
 | [], _ => Nat.le_refl _
 | p :: r, j => by
  have := keptP_len ks lk r (j + 1)
  simp only [keptP]
  split <;> simp only [List.length_cons] <;> omega
def dlZ1 (kv : Value) (cut : Int) (kept : Value) (k : Nat) : List (Nat × Value) := dlH1 kv cut kept k k ++ [(21, .bool false)]
theorem dlZ1_ren (t : Nat) (K : Kept3) : SlRen (piF t S.next) (slZ 94 (dlZ1 kv cut (keptV 200000 K) P.length)) (slZ 94 (dlZ1 kv cut (keptV S.next K) P.length)) := by
 have hk := piF_keeps t S.next
 exact SlRen.slZ ⟨rfl, low_ren hk rfl, rfl, low_ren hk I.keep.low, rfl, low_ren hk rfl, rfl, keptV_ren I t K, rfl, low_ren hk rfl, rfl, low_ren hk rfl, rfl, low_ren hk rfl, rfl, low_ren hk rfl, trivial⟩
theorem dlZ1_low (K : Kept3) : ∀ j v, slot (slZ 94 (dlZ1 kv cut (keptV S.next K) P.length)) j = some v → ∀ π, Keeps (S.next + 1) π → RenV π v v := fun j v h π hk => by
 have hn := I.p.next
 have h1 := slot_slZ h
 have hk' : Keeps 199997 π := hk.mono (by omega)
 simp only [dlZ1, dlH1, List.cons_append, List.nil_append, List.mem_cons, List.not_mem_nil, or_false, Prod.mk.injEq] at h1
 rcases h1 with ⟨rfl, rfl⟩ | ⟨rfl, rfl⟩ | ⟨rfl, rfl⟩ | ⟨rfl, rfl⟩ | ⟨rfl, rfl⟩ | ⟨rfl, rfl⟩ | ⟨rfl, rfl⟩ | ⟨rfl, rfl⟩
 ·exact low_ren hk' rfl
 ·exact low_ren hk' I.keep.low
 ·exact low_ren hk' rfl
 ·exact keptV_low I K π hk
 ·exact low_ren hk' rfl
 ·exact low_ren hk' rfl
 ·exact low_ren hk' rfl
 ·exact low_ren hk' rfl
theorem dl_round1 {i : Nat} {p : Nat × List Value} (h : P[i]? = some p) :
 SB Tryz.prog S dlL1 (slZ 94 (dlH1 kv cut (keptV S.next (keptP ks lk 0 (P.take i))) P.length i)) (S.ups (keptE S.next (keptP ks lk 0 (P.take i))) (S.next + 1)) .normal (slZ 94 (dlH1 kv cut (keptV S.next (keptP ks lk 0 (P.take (i + 1)))) P.length (i + 1))) (S.ups (keptE S.next (keptP ks lk 0 (P.take (i + 1)))) (S.next + 1)) := by
 rw [keptP_succ h]
 cases hb : keepB ks lk i with
 | false =>
  simp only [Bool.false_eq_true, if_false, List.append_nil]
  exact dl_skip I h hb _ (keptE_low I i)
 | true =>
  simp only [if_true]
  refine dl_keep I h hb _ (kept_tid I (i := i)) ?_
  have := keptP_len ks lk (P.take i) 0
  rw [List.length_take] at this
  omega
theorem dl_rounds1 : ∀ r i, i + r = P.length → SLB Tryz.prog S (r + 1) dlL1 (slZ 94 (dlH1 kv cut (keptV S.next (keptP ks lk 0 (P.take i))) P.length i)) (S.ups (keptE S.next (keptP ks lk 0 (P.take i))) (S.next + 1)) (.exit 0) (slZ 94 (dlZ1 kv cut (keptV S.next (keptP ks lk 0 P)) P.length)) (S.ups (keptE S.next (keptP ks lk 0 P)) (S.next + 1))
 | 0, i, hr => by
  obtain rfl : i = P.length := by omega
  have hl := keptE_low I P.length
  rw [List.take_length] at hl ⊢
  obtain ⟨ka, kc, hkv⟩ : ∃ ka kc, kv = .slice ka lk kc := by
   rcases I.keep.v with ⟨rfl, rfl⟩ | ⟨kc, rfl, _⟩
   ·exact ⟨_, _, rfl⟩
   ·exact ⟨_, _, rfl⟩
  have f1 : decide (((P.length : Nat) : Int) < (P.length : Int)) = false := decide_eq_false (by omega)
  have hr := dl1x P.length P.length lk kc cut ka (keptV 200000 (keptP ks lk 0 P))
  rw [← hkv] at hr
  simp only [f1] at hr
  exact SLB.exit (SB.near2 (cl := []) (s1 := []) (m := 1) (m' := 1) callZ dlGood1 (Runs.path yxZ hr rfl) rfl I.p.low I.p.next (Nat.le_of_ble_eq_true rfl) (Nat.le_of_ble_eq_true rfl) (fun x hx => by cases hx) (fun x hx => by cases hx) (fun j => rfl) hl (dlH1_ren I 199998 P.length _) (dlZ1_ren I 199998 _) (dlZ1_low I _))
 | r + 1, i, hr => by
  have hi : i < P.length := by omega
  exact SLB.step (dl_round1 I (List.getElem?_eq_getElem hi)) (dl_rounds1 r (i + 1) (by omega))
end
end Go.Xe
