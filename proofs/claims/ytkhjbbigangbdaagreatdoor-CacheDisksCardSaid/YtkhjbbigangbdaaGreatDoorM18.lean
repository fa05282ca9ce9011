/- A part of the proof. -/
import Derived.Test.YtkhjbbigangbdaaGreatDoorM15
import Derived.Test.YtkhjbbigangbdaaGreatDoorM14
import Derived.Test.YtkhjbbigangbdaaGreatDoorM16
import Derived.Test.YtkhjbbigangbdaaGreatDoorM17
set_option linter.all false
namespace Go.Xe
open Go Go.Proofs
noncomputable abbrev refL : Code := sub (codeOf Tryz.prog 14) [1,1,1,0,1,0,0]
theorem refCode : codeOf Tryz.prog 14 = .seq (sub (codeOf Tryz.prog 14) [0]) (.seq (sub (codeOf Tryz.prog 14) [1,0]) (.seq (sub (codeOf Tryz.prog 14) [1,1,0]) (.seq (.seq (sub (codeOf Tryz.prog 14) [1,1,1,0,0]) (.block 1 (.loop refL))) (sub (codeOf Tryz.prog 14) [1,1,1,1])))) := by kernel_rfl
theorem refBody : Tryz.f14.body = some (codeOf Tryz.prog 14) := by kernel_rfl
theorem refGoodL : goodCode refL = true := by kernel_rfl
theorem refGoodA : goodCode (sub (codeOf Tryz.prog 14) [0]) = true := by kernel_rfl
theorem refGoodB : goodCode (sub (codeOf Tryz.prog 14) [1,0]) = true := by kernel_rfl
theorem refGoodC : goodCode (sub (codeOf Tryz.prog 14) [1,1,0]) = true := by kernel_rfl
theorem refGoodD : goodCode (sub (codeOf Tryz.prog 14) [1,1,1,0,0]) = true := by kernel_rfl
theorem refGoodE : goodCode (sub (codeOf Tryz.prog 14) [1,1,1,1]) = true := by kernel_rfl
def refH (x z k A M i : Nat) : List (Nat × Value) := [(1, Value.int IntKind.i64 (A : Int)), (2, Value.int IntKind.i64 (M : Int)), (8, .slice (some ⟨x, 0, none⟩) z z), (32, Value.slice (some { block := 100010, off := 0 : Addr }) k k), (33, Value.int IntKind.i64 (k : Int)), (34, .int .i64 (i : Int))]
def refZ (x z k A M : Nat) : List (Nat × Value) := [(1, Value.int IntKind.i64 (A : Int)), (2, Value.int IntKind.i64 (M : Int)), (8, .slice (some ⟨x, 0, none⟩) z z), (32, Value.slice (some { block := 100010, off := 0 : Addr }) k k), (33, Value.int IntKind.i64 (k : Int)), (34, .int .i64 (k : Int)), (35, .bool false)]
theorem slot_slZ {n : Nat} {l : List (Nat × Value)} {i : Nat} {v : Value} (h : slot (slZ n l) i = some v) : (i, v) ∈ l := by
 unfold slZ at h
 have key : ∀ (l : List (Nat × Value)) (a : XAct), slot (l.foldl (fun a p => a.set p.1 (some p.2)) a) i = some v → (i, v) ∈ l ∨ slot a i = some v := by
  intro l
  induction l with
  | nil => intro a h; exact .inr h
  | cons p r ih =>
   intro a h
   rcases ih _ h with h1 | h1
   ·exact .inl (by simp [h1])
   ·rw [slot_set] at h1
    split at h1
    ·rename_i hc
     cases h1
     exact .inl (by rw [← hc.1]; simp)
    ·exact .inr h1
 rcases key l _ h with h1 | h1
 ·exact h1
 ·rw [slot_none] at h1; cases h1
theorem slZ_low {m n : Nat} {l : List (Nat × Value)} (h : l.all (fun p => low m p.2) = true) : ∀ i v, slot (slZ n l) i = some v → ∀ π, Keeps m π → RenV π v v := fun i v hv π hk =>
 low_ren hk (List.all_eq_true.1 h _ (slot_slZ hv))
theorem ren_row {t n j len cap : Nat} : RenV (piF t n) (.slice (some ⟨200000 + j, 0, none⟩) len cap) (.slice (some ⟨n + j, 0, none⟩) len cap) := by
 have := RenV.slice (π := piF t n) (200000 + j) 0 len cap
 rw [piF_new] at this; exact this
section
variable {P : Pend} {z A M : Nat} {S : St} {las : List Value} {fu : Int}
structure ReadIn (P : Pend) (z : Nat) (S : St) (las : List Value) (fu : Int) (A M : Nat) : Prop extends SyncIn P z S las fu where
 z0 : 0 < z
 fit : A + M ≤ z
variable (I : ReadIn P z S las fu A M)
include I
def allAt (S : St) (las : List Value) (P : Pend) (i : Nat) : List (Nat × Ent) := [(S.next + 1, .row (applyP las (P.take i)) 1 false)]
theorem allAt_low (i : Nat) : ∀ k y, (k, y) ∈ allAt S las P i → k < S.next + 2 ∧ LowR (S.next + 2) y := by
 intro k y h
 simp only [allAt, List.mem_cons, List.not_mem_nil, or_false, Prod.mk.injEq] at h
 obtain ⟨rfl, rfl⟩ := h
 exact ⟨by omega, fun π _ => bytes_ren (applyP_bytes _ _ (I.p.fits.take i) I.bytes) π⟩
theorem refH_ren (t i : Nat) : SlRen (piF t S.next) (slZ 55 (refH 200001 z P.length A M i)) (slZ 55 (refH (S.next + 1) z P.length A M i)) := by
 refine SlRen.slZ ⟨rfl, .int _ _, rfl, .int _ _, rfl, ren_row (j := 1), rfl, low_ren (piF_keeps t S.next) rfl, rfl, .int _ _, rfl, .int _ _, trivial⟩
theorem refH_low (i : Nat) : ∀ j v, slot (slZ 55 (refH (S.next + 1) z P.length A M i)) j = some v → ∀ π, Keeps (S.next + 2) π → RenV π v v := by
 refine slZ_low ?_
 have := I.p.next
 have h1 : decide (S.next + 1 < S.next + 2) = true := decide_eq_true (by omega)
 have h2 : decide (100010 < S.next + 2) = true := decide_eq_true (by omega)
 simp only [refH, List.all_cons, List.all_nil, low, low1, plain1, h1, h2, Bool.and_self]
theorem ref_round {i : Nat} {p : Nat × List Value} (h : P[i]? = some p) :
 SB Tryz.prog S refL (slZ 55 (refH (S.next + 1) z P.length A M i)) (S.ups (allAt S las P i) (S.next + 2)) .normal (slZ 55 (refH (S.next + 1) z P.length A M (i + 1))) (S.ups (allAt S las P (i + 1)) (S.next + 2)) := by
 have hi := (List.getElem?_eq_some_iff.1 h).1
 have hP := I.p
 have hn := hP.next
 have hm := hP.many
 have ht := tid_lt (i := i) (q := 1) (by omega) (by omega)
 have hfit := hP.fits p (List.mem_of_getElem? h)
 have hsz := hP.size
 have hlen : (applyP las (P.take i)).length = z := applyP_length _ _ (hP.fits.take i) I.len
 have hby : (applyP las (P.take i)).all isByte = true := applyP_bytes _ _ (hP.fits.take i) I.bytes
 have gne : ∀ j, j ≠ S.next + 1 → (putU S.heap (allAt S las P i)).get j = S.heap.get j := fun j hj => by simp only [allAt, putU]; rw [PT.get_set_ne _ _ hj]
 have hmod := tid_mod (100 + 2 * i + 1)
 have key : ∀ (C' : St),
  Runs Tryz.prog okN (xgoO Tryz.prog okN orcZ kp 100) (kp 14) refL (slZ 55 (refH 200001 z P.length A M i)) (ofL [(200001, .row (applyP las (P.take i)) 1 false), (100010, .row (arrS 1 P i p.2.length) 2 false), (199997, .row p.2 1 false)] 200002) .normal (slZ 55 (refH 200001 z P.length A M (i + 1))) C' →
  200002 ≤ C'.next → C'.heap.get 200001 = some (.row (splice (applyP las (P.take i)) p.1 p.2) 1 false) → C'.heap.get 100010 = some (.row (arrS 1 P i p.2.length) 2 false) → C'.heap.get 199997 = some (.row p.2 1 false) →
  SB Tryz.prog S refL (slZ 55 (refH (S.next + 1) z P.length A M i)) (S.ups (allAt S las P i) (S.next + 2)) .normal (slZ 55 (refH (S.next + 1) z P.length A M (i + 1))) (S.ups (allAt S las P (i + 1)) (S.next + 2)) := by
  intro C' hrun hn' c1 ca cr
  have hnew : (.row (applyP las (P.take (i + 1))) 1 false : Ent) = .row (splice (applyP las (P.take i)) p.1 p.2) 1 false := by rw [applyP_take_succ h]
  have e1 : piF (tid (100 + 2 * i + 1)) S.next 200001 = S.next + 1 := piF_new _ _ 1
  refine SB.elem2 (cl := [(200001, .row (applyP las (P.take i)) 1 false)]) (m := 2) (m' := 2) (s1 := [(200001, .row (splice (applyP las (P.take i)) p.1 p.2) 1 false)]) hP (by omega) h (by omega) callZ refGoodL hrun rfl rfl hn' (by omega) (by rw [gne _ (by omega)]; exact I.r10) (by rw [gne _ (by omega)]; exact hP.rows i p h) (by omega) ca cr (fun x hx => ?_) (fun x hx => ?_) (fun j => ?_) (allAt_low I (i + 1)) (refH_ren I _ _) (refH_ren I _ _) (refH_low I _)
  ·obtain rfl := List.mem_singleton.1 hx
   exact ⟨.inr ⟨by simp only; omega, by simp only; omega⟩, by simp only; rw [e1]; simp only [allAt, putU]; rw [PT.get_set_same], fun π _ => bytes_ren hby π, .inl ⟨_, List.mem_singleton.2 rfl⟩⟩
  ·obtain rfl := List.mem_singleton.1 hx
   exact ⟨c1, fun π _ => bytes_ren (splice_bytes hby hfit.2) π, rfl⟩
  ·simp only [List.map_cons, List.map_nil, e1, allAt, List.cons_append, List.nil_append, putU, PT.get_set, hnew]
   split <;> rfl
 have e1 : IntKind.wrap IntKind.i64 ((i : Int) + 1) = ((i + 1 : Nat) : Int) := wrapAdd (b := 1) (by omega)
 have f1 : decide ((i : Int) < (P.length : Int)) = true := decide_eq_true (by omega)
 have f2 : decide ((0 : Int) ≤ (i : Int)) = true := decide_eq_true (by omega)
 have f3 : decide (0 + i * 2 + 2 ≤ (arrS 1 P i p.2.length).length) = true := decide_eq_true (by rw [arrS_length]; omega)
 have f4 : decide ((p.1 : Int) ≤ (z : Int)) = true := decide_eq_true (by omega)
 have f5 : decide (p.2.length ≤ z - p.1) = true := decide_eq_true (by omega)
 have f6 := same_hint (q := 1) h
 by_cases h0 : p.2.length = 0
 ·have hp2 : p.2 = [] := List.eq_nil_of_length_eq_zero h0
  have hs : splice (applyP las (P.take i)) p.1 p.2 = applyP las (P.take i) := by rw [hp2]; unfold splice; simp
  have hr := refR0 z P.length i p.1 p.2.length A M (applyP las (P.take i)) (arrS 1 P i p.2.length) p.2
  rw [e1] at hr
  refine key _ (Runs.hpath yxZ hr ?_) (Nat.le_of_ble_eq_true rfl) (by rw [hs]; kernel_rfl) (by kernel_rfl) (by kernel_rfl)
  have f7 : decide (p.2.length = 0) = true := decide_eq_true h0
  simp only [f1, f2, f3, f4, f5, f6, f7]
  repeat rw [same_of]
  ·rfl
  all_goals rfl
 ·have hr := refR z P.length i p.1 p.2.length A M (applyP las (P.take i)) (arrS 1 P i p.2.length) p.2
  rw [e1] at hr
  have e2 : List.take (p.2.length * 1) (List.drop 0 p.2) = p.2 := by simp
  rw [e2] at hr
  rw [show 0 + p.1 * 1 = p.1 by omega] at hr
  refine key _ (Runs.hpath yxZ hr ?_) (Nat.le_of_ble_eq_true rfl) (by kernel_rfl) (by kernel_rfl) (by kernel_rfl)
  have f7 : decide (p.2.length = 0) = false := decide_eq_false h0
  have f8 : decide (0 + p.2.length * 1 ≤ p.2.length) = true := decide_eq_true (by omega)
  have f9 : decide (p.1 + p.2.length ≤ (applyP las (P.take i)).length) = true := decide_eq_true (by omega)
  have f10 : p.2.all one = true := ones_bytes hfit.2
  simp only [f1, f2, f3, f4, f5, f6, f7, f8, f9, f10]
  repeat rw [same_of]
  ·rfl
  all_goals rfl
end
end Go.Xe
