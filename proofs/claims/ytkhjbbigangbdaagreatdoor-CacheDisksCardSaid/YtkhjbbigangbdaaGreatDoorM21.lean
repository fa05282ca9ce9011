/- A part of the proof. -/
import Derived.Test.YtkhjbbigangbdaaGreatDoorM19
set_option linter.all false
namespace Go.Xe
open Go Go.Proofs
section
variable {P : Pend} {z : Nat} {S : St} {las : List Value} {on : Bool} {fu cut la : Int} {kv : Value} {ks : List Value} {lk : Nat} (I : LoseIn P z S las on fu kv ks lk)
include I
def loseAt (las : List Value) (ks : List Value) (lk : Nat) (la cut : Int) (P : Pend) (i : Nat) : List (Nat × Ent) := [(100009, .row (loseP ks lk la cut 0 (P.take i) las) 1 false)]
theorem loseAt_low (i : Nat) : ∀ k y, (k, y) ∈ loseAt las ks lk la cut P i → k < S.next + 0 ∧ LowR (S.next + 0) y := by
 intro k y h
 simp only [loseAt, List.mem_cons, List.not_mem_nil, or_false, Prod.mk.injEq] at h
 obtain ⟨rfl, rfl⟩ := h
 exact ⟨by have := I.p.next; omega, fun π _ => bytes_ren (loseP_bytes _ _ _ (I.p.fits.take i) I.bytes) π⟩
theorem rl_key {i : Nat} {p : Nat × List Value} (h : P[i]? = some p) (cl : List (Nat × Ent)) (s1 : List (Nat × Ent)) (C' : St) {L : List (Nat × Ent)}
 (hrun : Runs Tryz.prog okN (xgoO Tryz.prog okN orcZ kp 100) (kp 19) rlL2 (slZ 89 (rlH2 kv cut la P.length i)) (ofL L 200000) .normal (slZ 89 (rlH2 kv cut la P.length (i + 1))) C')
 (hL : L = cl ++ [(100010, .row (arrS 1 P i p.2.length) 2 false), (199997, .row p.2 1 false)]) (hn' : 200000 ≤ C'.next)
 (hcl : ∀ x, x ∈ cl → x = (100008, rRow z (wrV 100010 P.length) on fu) ∧ C'.heap.get 100008 = some (rRow z (wrV 100010 P.length) on fu) ∨ (x = (199990, .row ks 1 true) ∧ S.heap.get 199990 = some (.row ks 1 true) ∧ C'.heap.get 199990 = some (.row ks 1 true)) ∨ (x = (100009, .row (loseP ks lk la cut 0 (P.take i) las) 1 false) ∧ s1 = [(100009, .row (loseP ks lk la cut 0 (P.take (i + 1)) las) 1 false)]))
 (hs1 : s1 = [] ∧ keepB ks lk i = false ∨ s1 = [(100009, .row (loseP ks lk la cut 0 (P.take (i + 1)) las) 1 false)] ∧ C'.heap.get 100009 = some (.row (loseP ks lk la cut 0 (P.take (i + 1)) las) 1 false))
 (ca : C'.heap.get 100010 = some (.row (arrS 1 P i p.2.length) 2 false)) (cr : C'.heap.get 199997 = some (.row p.2 1 false)) :
 SB Tryz.prog S rlL2 (slZ 89 (rlH2 kv cut la P.length i)) (S.ups (loseAt las ks lk la cut P i) S.next) .normal (slZ 89 (rlH2 kv cut la P.length (i + 1))) (S.ups (loseAt las ks lk la cut P (i + 1)) S.next) := by
 have hi := (List.getElem?_eq_some_iff.1 h).1
 have hn := I.p.next
 have hm := I.p.many
 have ht := tid_lt (i := i) (q := 1) (by omega) (by omega)
 have hmod := tid_mod (100 + 2 * i + 1)
 have gne : ∀ j, j ≠ 100009 → (putU S.heap (loseAt las ks lk la cut P i)).get j = S.heap.get j := fun j hj => by simp only [loseAt, putU]; rw [PT.get_set_ne _ _ hj]
 have g9 : (putU S.heap (loseAt las ks lk la cut P i)).get 100009 = some (.row (loseP ks lk la cut 0 (P.take i) las) 1 false) := by simp only [loseAt, putU]; rw [PT.get_set_same]
 have hk := piF_keeps (tid (100 + 2 * i + 1)) S.next
 have hby : (loseP ks lk la cut 0 (P.take (i + 1)) las).all isByte = true := loseP_bytes _ _ _ (I.p.fits.take (i + 1)) I.bytes
 refine SB.elem2 (cl := cl) (m := 0) (m' := 0) (s1 := s1) I.p (by omega) h (by omega) callZ rlGood2 hrun hL rfl hn' (Nat.zero_le _) (by rw [gne _ (by omega)]; exact I.r10) (by rw [gne _ (by omega)]; exact I.p.rows i p h) (by omega) ca cr (fun x hx => ?_) (fun x hx => ?_) (fun j => ?_) (loseAt_low I (i + 1)) (rlH2_ren I _ _) (rlH2_ren I _ _) (rlH2_low I _)
 ·rcases hcl x hx with ⟨rfl, hc⟩ | ⟨rfl, hg, hc⟩ | ⟨rfl, hs⟩
  ·exact ⟨.inl ⟨Nat.le_of_ble_eq_true rfl, (show 100008 % 1024 ≠ 1022 by decide)⟩, by rw [hk _ (Nat.le_of_ble_eq_true rfl), gne _ (show 100008 ≠ 100009 by decide)]; exact I.r8, fun π hk => lowE_ren hk (by kernel_rfl), .inr hc⟩
  ·exact ⟨.inl ⟨Nat.le_of_ble_eq_true rfl, (show 199990 % 1024 ≠ 1022 by decide)⟩, by rw [hk _ (Nat.le_of_ble_eq_true rfl), gne _ (show 199990 ≠ 100009 by decide)]; exact hg, fun π _ => bools_ren I.keep.bools π, .inr hc⟩
  ·exact ⟨.inl ⟨Nat.le_of_ble_eq_true rfl, (show 100009 % 1024 ≠ 1022 by decide)⟩, by rw [hk _ (Nat.le_of_ble_eq_true rfl)]; exact g9, fun π _ => bytes_ren (loseP_bytes _ _ _ (I.p.fits.take i) I.bytes) π, .inl ⟨_, by rw [hs]; exact List.mem_singleton.2 rfl⟩⟩
 ·rcases hs1 with ⟨rfl, _⟩ | ⟨rfl, hc⟩
  ·cases hx
  ·obtain rfl := List.mem_singleton.1 hx
   exact ⟨hc, fun π _ => bytes_ren hby π, rfl⟩
 ·rcases hs1 with ⟨rfl, hkb⟩ | ⟨rfl, hc⟩
  ·have : loseP ks lk la cut 0 (P.take (i + 1)) las = loseP ks lk la cut 0 (P.take i) las := by
    rw [loseP_take_succ h]; unfold loseS; rw [hkb]; simp only [Bool.false_eq_true, if_false]
   simp only [List.map_nil, List.nil_append, loseAt, this]
  ·simp only [List.map_cons, List.map_nil, List.cons_append, List.nil_append, loseAt, putU, PT.get_set, hk 100009 (by omega)]
   split <;> rfl
theorem rl_round2 {i : Nat} {p : Nat × List Value} (h : P[i]? = some p) :
 SB Tryz.prog S rlL2 (slZ 89 (rlH2 kv cut la P.length i)) (S.ups (loseAt las ks lk la cut P i) S.next) .normal (slZ 89 (rlH2 kv cut la P.length (i + 1))) (S.ups (loseAt las ks lk la cut P (i + 1)) S.next) := by
 have hi := (List.getElem?_eq_some_iff.1 h).1
 have hm := I.p.many
 have hn := I.p.next
 have hfit := I.p.fits p (List.mem_of_getElem? h)
 have hsz := I.p.size
 have hlen : (loseP ks lk la cut 0 (P.take i) las).length = z := loseP_length _ _ _ (I.p.fits.take i) I.len
 have e1 : IntKind.wrap IntKind.i64 ((i : Int) + 1) = ((i + 1 : Nat) : Int) := wrapAdd (b := 1) (by omega)
 have f1 : decide ((i : Int) < (P.length : Int)) = true := decide_eq_true (by omega)
 have f2 : decide ((0 : Int) ≤ (i : Int)) = true := decide_eq_true (by omega)
 have f3 : decide (0 + i * 2 + 2 ≤ (arrS 1 P i p.2.length).length) = true := decide_eq_true (by rw [arrS_length]; omega)
 have f6 := same_hint (q := 1) h
 have hsucc := loseP_take_succ (ks := ks) (lk := lk) (la := la) (cut := cut) h las
 by_cases hk : i < lk
 ·obtain ⟨kc, rfl, hrow⟩ : ∃ kc, kv = .slice (some ⟨199990, 0, none⟩) lk kc ∧ S.heap.get 199990 = some (.row ks 1 true) := by
   rcases I.keep.v with ⟨_, h⟩ | h
   ·omega
   ·exact h
  have hle := I.keep.le
  have g1 : decide ((i : Int) < (lk : Int)) = true := decide_eq_true (by omega)
  have g2 : decide ((lk : Int) ≤ (i : Int)) = false := decide_eq_false (by omega)
  have e2 : 0 + i * 1 = i := by omega
  have g3 : decide (i < ks.length) = true := decide_eq_true (by omega)
  have g4 := bool_at I.keep.bools (show i < ks.length by omega)
  have hkeep : keepB ks lk i = boolOf (ks.getD i undefX) := by simp [keepB, hk]
  cases hb : boolOf (ks.getD i undefX) with
  | false =>
   have hr := rl2t P.length i p.1 p.2.length lk kc cut la ks (arrS 1 P i p.2.length) p.2
   simp only [e1, e2] at hr
   refine rl_key I h [(199990, .row ks 1 true)] [] _ (Runs.hpath yxZ hr ?_) rfl (Nat.le_of_ble_eq_true rfl) (fun x hx => ?_) (.inl ⟨rfl, by rw [hkeep, hb]⟩) (by kernel_rfl) (by kernel_rfl)
   ·simp only [f1, f2, f3, f6, g1, g2, g3, g4, hb]; rfl
   ·obtain rfl := List.mem_singleton.1 hx
    exact .inr (.inl ⟨rfl, hrow, by kernel_rfl⟩)
  | true =>
   have hcopy : ∀ (C' : St), Runs Tryz.prog okN (xgoO Tryz.prog okN orcZ kp 100) (kp 19) rlL2 (slZ 89 (rlH2 (.slice (some ⟨199990, 0, none⟩) lk kc) cut la P.length i)) (ofL [(100008, rRow z (wrV 100010 P.length) on fu), (100009, .row (loseP ks lk la cut 0 (P.take i) las) 1 false), (199990, .row ks 1 true), (100010, .row (arrS 1 P i p.2.length) 2 false), (199997, .row p.2 1 false)] 200000) .normal (slZ 89 (rlH2 (.slice (some ⟨199990, 0, none⟩) lk kc) cut la P.length (i + 1))) C' →
    200000 ≤ C'.next → C'.heap.get 100008 = some (rRow z (wrV 100010 P.length) on fu) → C'.heap.get 100009 = some (.row (splice (loseP ks lk la cut 0 (P.take i) las) p.1 (p.2.take (effL la cut i p.2.length))) 1 false) → C'.heap.get 199990 = some (.row ks 1 true) → C'.heap.get 100010 = some (.row (arrS 1 P i p.2.length) 2 false) → C'.heap.get 199997 = some (.row p.2 1 false) →
    SB Tryz.prog S rlL2 (slZ 89 (rlH2 (.slice (some ⟨199990, 0, none⟩) lk kc) cut la P.length i)) (S.ups (loseAt las ks lk la cut P i) S.next) .normal (slZ 89 (rlH2 (.slice (some ⟨199990, 0, none⟩) lk kc) cut la P.length (i + 1))) (S.ups (loseAt las ks lk la cut P (i + 1)) S.next) := by
    intro C' hrun hn' c8 c9 ck ca cr
    have e9 : loseP ks lk la cut 0 (P.take (i + 1)) las = splice (loseP ks lk la cut 0 (P.take i) las) p.1 (p.2.take (effL la cut i p.2.length)) := by
     rw [hsucc]; unfold loseS; rw [hkeep, hb]; simp only [if_true]
    refine rl_key I h [(100008, rRow z (wrV 100010 P.length) on fu), (100009, .row (loseP ks lk la cut 0 (P.take i) las) 1 false), (199990, .row ks 1 true)] [(100009, .row (loseP ks lk la cut 0 (P.take (i + 1)) las) 1 false)] C' hrun rfl hn' (fun x hx => ?_) (.inr ⟨rfl, by rw [e9]; exact c9⟩) ca cr
    simp only [List.mem_cons, List.not_mem_nil, or_false] at hx
    rcases hx with rfl | rfl | rfl
    ·exact .inl ⟨rfl, c8⟩
    ·exact .inr (.inr ⟨rfl, rfl⟩)
    ·exact .inr (.inl ⟨rfl, hrow, ck⟩)
   have g5 : decide ((p.1 : Int) ≤ (z : Int)) = true := decide_eq_true (by omega)
   have e5 : 0 + p.1 * 1 = p.1 := by omega
   by_cases hfull : effL la cut i p.2.length = p.2.length
   ·
    have hwhole : p.2.take (effL la cut i p.2.length) = p.2 := by rw [hfull]; exact List.take_length
    rw [hwhole] at hcopy
    have g6 : decide (p.2.length ≤ z - p.1) = true := decide_eq_true (by omega)
    have e2' : List.take (p.2.length * 1) (List.drop 0 p.2) = p.2 := by simp
    have f8 : decide (0 + p.2.length * 1 ≤ p.2.length) = true := decide_eq_true (by omega)
    have f9 : decide (p.1 + p.2.length ≤ (loseP ks lk la cut 0 (P.take i) las).length) = true := decide_eq_true (by omega)
    have f10 : p.2.all one = true := ones_bytes hfit.2
    have fin0 : p.2.length = 0 → splice (loseP ks lk la cut 0 (P.take i) las) p.1 p.2 = loseP ks lk la cut 0 (P.take i) las := fun h0 => by rw [List.eq_nil_of_length_eq_zero h0]; unfold splice; simp
    by_cases hla : (i : Int) = la
    ·have h1 : decide ((i : Int) = la) = true := decide_eq_true hla
     by_cases hc0 : 0 ≤ cut
     ·have h2 : decide (0 ≤ cut) = true := decide_eq_true hc0
      have hcl : ¬ cut < (p.2.length : Int) := by
       intro hlt
       unfold effL at hfull
       rw [if_pos ⟨hla, hc0, hlt⟩] at hfull
       omega
      have h3 : decide (cut < (p.2.length : Int)) = false := decide_eq_false hcl
      by_cases h0 : p.2.length = 0
      ·have hr := rl2l0 z P.length i p.1 p.2.length lk kc cut la fu on ks (loseP ks lk la cut 0 (P.take i) las) (arrS 1 P i p.2.length) p.2
       simp only [e1, e2] at hr
       refine hcopy _ (Runs.hpath yxZ hr ?_) (Nat.le_of_ble_eq_true rfl) (by kernel_rfl) (by rw [fin0 h0]; kernel_rfl) (by kernel_rfl) (by kernel_rfl) (by kernel_rfl)
       have f7 : decide (p.2.length = 0) = true := decide_eq_true h0
       simp only [f1, f2, f3, f6, f7, g1, g2, g3, g4, g5, g6, hb, h1, h2, h3]
       repeat rw [same_of]
       ·rfl
       all_goals rfl
      ·have hr := rl2l z P.length i p.1 p.2.length lk kc cut la fu on ks (loseP ks lk la cut 0 (P.take i) las) (arrS 1 P i p.2.length) p.2
       simp only [e1, e2] at hr
       rw [e2', e5] at hr
       refine hcopy _ (Runs.hpath yxZ hr ?_) (Nat.le_of_ble_eq_true rfl) (by kernel_rfl) (by kernel_rfl) (by kernel_rfl) (by kernel_rfl) (by kernel_rfl)
       have f7 : decide (p.2.length = 0) = false := decide_eq_false h0
       simp only [f1, f2, f3, f6, f7, f8, f9, f10, g1, g2, g3, g4, g5, g6, hb, h1, h2, h3]
       repeat rw [same_of]
       ·rfl
       all_goals rfl
     ·have h2 : decide (0 ≤ cut) = false := decide_eq_false hc0
      by_cases h0 : p.2.length = 0
      ·have hr := rl2m0 z P.length i p.1 p.2.length lk kc cut la fu on ks (loseP ks lk la cut 0 (P.take i) las) (arrS 1 P i p.2.length) p.2
       simp only [e1, e2] at hr
       refine hcopy _ (Runs.hpath yxZ hr ?_) (Nat.le_of_ble_eq_true rfl) (by kernel_rfl) (by rw [fin0 h0]; kernel_rfl) (by kernel_rfl) (by kernel_rfl) (by kernel_rfl)
       have f7 : decide (p.2.length = 0) = true := decide_eq_true h0
       simp only [f1, f2, f3, f6, f7, g1, g2, g3, g4, g5, g6, hb, h1, h2]
       repeat rw [same_of]
       ·rfl
       all_goals rfl
      ·have hr := rl2m z P.length i p.1 p.2.length lk kc cut la fu on ks (loseP ks lk la cut 0 (P.take i) las) (arrS 1 P i p.2.length) p.2
       simp only [e1, e2] at hr
       rw [e2', e5] at hr
       refine hcopy _ (Runs.hpath yxZ hr ?_) (Nat.le_of_ble_eq_true rfl) (by kernel_rfl) (by kernel_rfl) (by kernel_rfl) (by kernel_rfl) (by kernel_rfl)
       have f7 : decide (p.2.length = 0) = false := decide_eq_false h0
       simp only [f1, f2, f3, f6, f7, f8, f9, f10, g1, g2, g3, g4, g5, g6, hb, h1, h2]
       repeat rw [same_of]
       ·rfl
       all_goals rfl
    ·have h1 : decide ((i : Int) = la) = false := decide_eq_false hla
     by_cases h0 : p.2.length = 0
     ·have hr := rl2n0 z P.length i p.1 p.2.length lk kc cut la fu on ks (loseP ks lk la cut 0 (P.take i) las) (arrS 1 P i p.2.length) p.2
      simp only [e1, e2] at hr
      refine hcopy _ (Runs.hpath yxZ hr ?_) (Nat.le_of_ble_eq_true rfl) (by kernel_rfl) (by rw [fin0 h0]; kernel_rfl) (by kernel_rfl) (by kernel_rfl) (by kernel_rfl)
      have f7 : decide (p.2.length = 0) = true := decide_eq_true h0
      simp only [f1, f2, f3, f6, f7, g1, g2, g3, g4, g5, g6, hb, h1]
      repeat rw [same_of]
      ·rfl
      all_goals rfl
     ·have hr := rl2n z P.length i p.1 p.2.length lk kc cut la fu on ks (loseP ks lk la cut 0 (P.take i) las) (arrS 1 P i p.2.length) p.2
      simp only [e1, e2] at hr
      rw [e2', e5] at hr
      refine hcopy _ (Runs.hpath yxZ hr ?_) (Nat.le_of_ble_eq_true rfl) (by kernel_rfl) (by kernel_rfl) (by kernel_rfl) (by kernel_rfl) (by kernel_rfl)
      have f7 : decide (p.2.length = 0) = false := decide_eq_false h0
      simp only [f1, f2, f3, f6, f7, f8, f9, f10, g1, g2, g3, g4, g5, g6, hb, h1]
      repeat rw [same_of]
      ·rfl
      all_goals rfl
   ·have hcond : (i : Int) = la ∧ 0 ≤ cut ∧ cut < (p.2.length : Int) := Classical.byContradiction fun hn => hfull (by unfold effL; rw [if_neg hn])
    obtain ⟨hla, hc0, hcl⟩ := hcond
    have heff : effL la cut i p.2.length = cut.toNat := by unfold effL; rw [if_pos ⟨hla, hc0, hcl⟩]
    rw [heff] at hcopy
    obtain ⟨cn, rfl⟩ := Int.eq_ofNat_of_zero_le hc0
    simp only [Int.toNat_natCast] at hcopy
    have h1 : decide ((i : Int) = la) = true := decide_eq_true hla
    have h2 : decide ((0 : Int) ≤ (cn : Int)) = true := decide_eq_true (by omega)
    have h3 : decide ((cn : Int) < (p.2.length : Int)) = true := decide_eq_true hcl
    have h4 : decide ((cn : Int) ≤ (p.2.length : Int)) = true := decide_eq_true (by omega)
    have g6 : decide (cn ≤ z - p.1) = true := decide_eq_true (by omega)
    by_cases h0 : cn = 0
    ·have hr := rl2c0 z P.length i p.1 p.2.length lk kc (cn : Int) la fu on ks (loseP ks lk la (cn : Int) 0 (P.take i) las) (arrS 1 P i p.2.length) p.2
     simp only [e1, e2, Int.toNat_natCast, Nat.sub_zero] at hr
     have fin0 : splice (loseP ks lk la (cn : Int) 0 (P.take i) las) p.1 (p.2.take cn) = loseP ks lk la (cn : Int) 0 (P.take i) las := by rw [h0, List.take_zero]; unfold splice; simp
     refine hcopy _ (Runs.hpath yxZ hr ?_) (Nat.le_of_ble_eq_true rfl) (by kernel_rfl) (by rw [fin0]; kernel_rfl) (by kernel_rfl) (by kernel_rfl) (by kernel_rfl)
     have f7 : decide (cn = 0) = true := decide_eq_true h0
     simp only [f1, f2, f3, f6, f7, g1, g2, g3, g4, g5, g6, hb, h1, h2, h3, h4]
     repeat rw [same_of]
     ·rfl
     all_goals rfl
    ·have hr := rl2c z P.length i p.1 p.2.length lk kc (cn : Int) la fu on ks (loseP ks lk la (cn : Int) 0 (P.take i) las) (arrS 1 P i p.2.length) p.2
     simp only [e1, e2, Int.toNat_natCast, Nat.sub_zero, Nat.mul_one, Nat.zero_add, List.drop_zero] at hr
     refine hcopy _ (Runs.hpath yxZ hr ?_) (Nat.le_of_ble_eq_true rfl) (by kernel_rfl) (by kernel_rfl) (by kernel_rfl) (by kernel_rfl) (by kernel_rfl)
     have f7 : decide (cn = 0) = false := decide_eq_false h0
     have f8 : decide (cn ≤ p.2.length) = true := decide_eq_true (by omega)
     have f9 : decide (p.1 + (p.2.take cn).length ≤ (loseP ks lk la (cn : Int) 0 (P.take i) las).length) = true := decide_eq_true (by rw [List.length_take]; omega)
     have f10 : (p.2.take cn).all one = true := ones_bytes (all_take_of hfit.2 cn)
     have f3' : decide (i * 2 + 2 ≤ (arrS 1 P i p.2.length).length) = true := decide_eq_true (by rw [arrS_length]; omega)
     have f6' := f6
     rw [Nat.zero_add] at f6'
     simp only [f1, f2, f3', f6', f7, f8, f9, f10, g1, g2, g3, g4, g5, g6, hb, h1, h2, h3, h4]
     repeat rw [same_of]
     ·rfl
     all_goals rfl
 ·obtain ⟨ka, kc, hkv⟩ : ∃ ka kc, kv = .slice ka lk kc := by
   rcases I.keep.v with ⟨rfl, rfl⟩ | ⟨kc, rfl, _⟩
   ·exact ⟨_, _, rfl⟩
   ·exact ⟨_, _, rfl⟩
  have g2 : decide ((lk : Int) ≤ (i : Int)) = true := decide_eq_true (by omega)
  have hr := rl2s P.length i p.1 p.2.length lk kc cut la ka (arrS 1 P i p.2.length) p.2
  simp only [e1] at hr
  rw [← hkv] at hr
  refine rl_key I h [] [] _ (Runs.hpath yxZ hr ?_) rfl (Nat.le_of_ble_eq_true rfl) (fun x hx => by cases hx) (.inl ⟨rfl, by simp [keepB, hk]⟩) (by kernel_rfl) (by kernel_rfl)
  simp only [f1, f2, f3, f6, g2]; rfl
end
end Go.Xe
