/- A part of the proof. -/
import Derived.Test.YtkhjbbigangbdaaGreatDoorM13
set_option linter.all false
namespace Go.Xe
open Go Go.Proofs
def SlRen (π : Nat → Nat) (a aL : XAct) : Prop := List.length a = List.length aL ∧ (∀ i v, slot a i = some v → ∃ v', slot aL i = some v' ∧ RenV π v v') ∧ (∀ i v', slot aL i = some v' → ∃ v, slot a i = some v ∧ RenV π v v')
theorem SlRen.set {π : Nat → Nat} {a aL : XAct} (h : SlRen π a aL) (i : Nat) {v v' : Value} (hv : RenV π v v') : SlRen π (a.set i (some v)) (aL.set i (some v')) := by
 obtain ⟨h1, h2, h3⟩ := h
 refine ⟨by simp [h1], fun j u hu => ?_, fun j u hu => ?_⟩
 ·rw [slot_set] at hu ⊢
  split at hu
  ·rename_i hc
   cases hu
   rw [if_pos ⟨hc.1, by rw [← h1]; exact hc.2⟩]
   exact ⟨v', rfl, hv⟩
  ·rename_i hc
   rw [if_neg (fun hd => hc ⟨hd.1, by rw [h1]; exact hd.2⟩)]
   exact h2 j u hu
 ·rw [slot_set] at hu ⊢
  split at hu
  ·rename_i hc
   cases hu
   rw [if_pos ⟨hc.1, by rw [h1]; exact hc.2⟩]
   exact ⟨v, rfl, hv⟩
  ·rename_i hc
   rw [if_neg (fun hd => hc ⟨hd.1, by rw [← h1]; exact hd.2⟩)]
   exact h3 j u hu
def PairsRen (π : Nat → Nat) : List (Nat × Value) → List (Nat × Value) → Prop
 | [], [] => True
 | p :: r, q :: s => p.1 = q.1 ∧ RenV π p.2 q.2 ∧ PairsRen π r s
 | _, _ => False
theorem SlRen.fold {π : Nat → Nat} : ∀ (l l' : List (Nat × Value)) (a aL : XAct), PairsRen π l l' → SlRen π a aL → SlRen π (l.foldl (fun a p => a.set p.1 (some p.2)) a) (l'.foldl (fun a p => a.set p.1 (some p.2)) aL)
 | [], [], a, aL, _, h => h
 | p :: r, q :: s, a, aL, hp, h => by
  obtain ⟨h1, h2, h3⟩ := hp
  simp only [List.foldl_cons]
  rw [h1]
  exact SlRen.fold r s _ _ h3 (h.set _ h2)
 | [], _ :: _, _, _, hp, _ => hp.elim
 | _ :: _, [], _, _, hp, _ => hp.elim
theorem slot_none (n i : Nat) : slot (List.replicate n none) i = none := by
 unfold slot
 split
 ·rename_i o ho
  rw [List.getElem?_replicate] at ho
  split at ho <;> cases ho
  rfl
 ·rfl
theorem SlRen.slZ {π : Nat → Nat} {n : Nat} {l l' : List (Nat × Value)} (h : PairsRen π l l') : SlRen π (slZ n l) (slZ n l') :=
 SlRen.fold l l' _ _ h ⟨rfl, (fun (i : Nat) (v : Value) hv => by rw [slot_none] at hv; cases hv), (fun (i : Nat) (v : Value) hv => by rw [slot_none] at hv; cases hv)⟩
theorem PairsRen.low {π : Nat → Nat} {m : Nat} (hk : Keeps m π) : ∀ {l : List (Nat × Value)}, l.all (fun p => low m p.2) = true → PairsRen π l l
 | [], _ => trivial
 | p :: r, h => by
  simp only [List.all_cons, Bool.and_eq_true] at h
  exact ⟨rfl, low_ren hk h.1, PairsRen.low hk h.2⟩
theorem SlRen.of_low {π : Nat → Nat} {m : Nat} (hk : Keeps m π) {a : XAct} (h : lowA m a = true) : SlRen π a a :=
 ⟨rfl, fun i v hv => ⟨v, hv, lowA_ren h i v hv π hk⟩, fun i v hv => ⟨v, hv, lowA_ren h i v hv π hk⟩⟩
theorem Moves.back2 {S : St} {l l' : List (Nat × Ent)} {n m : Nat} {a1 b : XAct} (hl : LowSt S) (hm : S.next ≤ m) (hn : m ≤ n) (hu : ∀ k y, (k, y) ∈ l → k < m ∧ LowR m y)
 (hsame : ∀ i, (putU S.heap l').get i = (putU S.heap l).get i) (hlen : List.length b = List.length a1) (ha : ∀ i v, slot b i = some v → slot a1 i = some v ∧ ∀ π, Keeps m π → RenV π v v) :
 Moves S a1 (S.ups l' n) b (S.ups l m) := fun α γ w w' tmps hr hN har => by
 have k : Kept m (S.ups l m) (S.ups l' n) := by
  refine ⟨fun i e hi => ?_, rfl, hn, rfl, Nat.le_trans hl.1 hm⟩
  have hi' : (putU S.heap l).get i = some e := hi
  refine ⟨by show (putU S.heap l').get i = some e; rw [hsame]; exact hi', ?_⟩
  rcases get_putU l _ i e hi' with h1 | ⟨h1, _⟩
  ·exact hu i e h1
  ·obtain ⟨h2, h3⟩ := hl.2 i e h1
   exact ⟨by omega, fun π hk => h3 π (hk.mono hm)⟩
 obtain ⟨β', hn', hv⟩ := hN.forget k hm hr
 refine ⟨β', hn', by rw [hlen]; exact har.1, fun i v hi => ?_⟩
 obtain ⟨h1, h2⟩ := ha i v hi
 obtain ⟨v', h3, h4⟩ := har.2 i v h1
 exact ⟨v', h3, hv v v' h2 h4⟩
section
variable {S C C' : St} {c : Code} {a a' aL b : XAct} {e : XE} {lb l1 l : List (Nat × Ent)} {call : XCall} {fg : Nat → Option Nat} {m m' : Nat}
theorem SB.small2 (hC : CallSound Tryz.prog call) (hg : goodCode c = true) (hrun : Runs Tryz.prog okN call fg c a C e a' C') (t : Nat)
 (hl : LowSt S) (hn : 200000 ≤ S.next) (ht : t < S.next) (hCn : C.next = 200000 + m) (hCg : C.glob = 0) (hCn' : 200000 + m' ≤ C'.next) (hmm : m ≤ C'.next - 200000)
 (hc : ∀ i x, C.heap.get i = some x → (i ≤ 199997 ∧ i ≠ t ∨ 200000 ≤ i ∧ i < 200000 + m) ∧ ∃ y, (putU S.heap lb).get (piF t S.next i) = some y ∧ RenE (piF t S.next) x y)
 (hu : Ups (piF t S.next) C C' (S.ups lb (S.next + m)) l1)
 (hsame : ∀ i, (putU S.heap (l1 ++ lb)).get i = (putU S.heap l).get i) (hlow : ∀ k y, (k, y) ∈ l → k < S.next + m' ∧ LowR (S.next + m') y)
 (ha : SlRen (piF t S.next) a aL) (hb : SlRen (piF t S.next) a' b) (hbl : ∀ i v, slot b i = some v → ∀ π, Keeps (S.next + m') π → RenV π v v) :
 SB Tryz.prog S c aL (S.ups lb (S.next + m)) e b (S.ups l (S.next + m')) := by
 have em : Emb2 (piF t S.next) C (S.ups lb (S.next + m)) := by
  refine ⟨fun i j x y hi hj hij => ?_, fun i hi => ?_, fun i hi => ?_, hCg⟩
  ·obtain ⟨h1, _⟩ := hc i x hi
   obtain ⟨h3, _⟩ := hc j y hj
   unfold piF at hij
   split at hij
   ·split at hij
    ·omega
    ·split at hij <;> omega
   ·split at hij
    ·split at hij
     ·omega
     ·split at hij <;> omega
    ·split at hij
     ·omega
     ·split at hij <;> omega
  ·rw [hCn] at hi
   show piF t S.next i < S.next + m
   unfold piF
   split
   ·omega
   ·split <;> omega
  ·rw [hCn] at hi
   show piF t S.next i = S.next + m + (i - C.next)
   unfold piF
   rw [if_neg (by omega), if_neg (by omega), hCn]
   omega
 have sr : SR Tryz.prog c aL (S.ups lb (S.next + m)) e b ((S.ups lb (S.next + m)).ups l1 ((S.ups lb (S.next + m)).next + (C'.next - C.next))) := by
  refine SR.lift (SR.of mixed okN_ok hC hg hrun) em (fun i x hi => ?_) hu ha.1.symm ha.2.1 hb.1.symm hb.2.2
  obtain ⟨h1, h3⟩ := hc i x hi
  exact ⟨by omega, h3⟩
 rw [ups_ups] at sr
 refine (SB.of sr).moves ?_
 refine Moves.back2 hl (by omega) ?_ hlow hsame rfl (fun i v hi => ⟨hi, hbl i v hi⟩)
 show S.next + m' ≤ S.next + m + (C'.next - C.next)
 omega
theorem piF_new (t n j : Nat) : piF t n (200000 + j) = n + j := by
 unfold piF
 rw [if_neg (by omega), if_neg (by omega)]; omega
variable {cl s1 : List (Nat × Ent)} {q arr z i : Nat} {P : Pend} {p : Nat × List Value}
theorem SB.elem2 (hP : PCond q P z S) (hq : q < 2) (hp : P[i]? = some p) (harr : arr < 199997) (hC : CallSound Tryz.prog call) (hg : goodCode c = true)
 {L : List (Nat × Ent)} {N : Nat} (hrun : Runs Tryz.prog okN call fg c a (ofL L N) e a' C') (hL : L = cl ++ [(arr, .row (arrS q P i p.2.length) 2 false), (199997, .row p.2 1 false)]) (hN : N = 200000 + m) (hCn' : 200000 + m' ≤ C'.next) (hmm : m ≤ C'.next - 200000)
 (hga : (putU S.heap lb).get arr = some (.row (arrC q 0 P) 2 false)) (hgr : (putU S.heap lb).get (tid (100 + 2 * i + q)) = some (.row p.2 1 false))
 (hna : arr ≠ tid (100 + 2 * i + q)) (ca : C'.heap.get arr = some (.row (arrS q P i p.2.length) 2 false)) (cr : C'.heap.get 199997 = some (.row p.2 1 false))
 (hcl : ∀ x, x ∈ cl → (x.1 < 199997 ∧ x.1 % 1024 ≠ 1022 ∨ 200000 ≤ x.1 ∧ x.1 < 200000 + m) ∧ (putU S.heap lb).get (piF (tid (100 + 2 * i + q)) S.next x.1) = some x.2 ∧ LowR 199997 x.2 ∧ ((∃ y, (x.1, y) ∈ s1) ∨ C'.heap.get x.1 = some x.2))
 (hs1 : ∀ x, x ∈ s1 → C'.heap.get x.1 = some x.2 ∧ LowR 199997 x.2 ∧ x.2.ro = false)
 (hsame : ∀ j, (putU S.heap (s1.map (fun x => (piF (tid (100 + 2 * i + q)) S.next x.1, x.2)) ++ lb)).get j = (putU S.heap l).get j) (hlow : ∀ k y, (k, y) ∈ l → k < S.next + m' ∧ LowR (S.next + m') y)
 (ha : SlRen (piF (tid (100 + 2 * i + q)) S.next) a aL) (hb : SlRen (piF (tid (100 + 2 * i + q)) S.next) a' b) (hbl : ∀ i v, slot b i = some v → ∀ π, Keeps (S.next + m') π → RenV π v v) :
 SB Tryz.prog S c aL (S.ups lb (S.next + m)) e b (S.ups l (S.next + m')) := by
 subst hL; subst hN
 have hi := (List.getElem?_eq_some_iff.1 hp).1
 have hn := hP.next
 have hm := hP.many
 have ht := tid_lt (i := i) (q := q) (by omega) hq
 have hfit := hP.fits p (List.mem_of_getElem? hp)
 have hk := piF_keeps (tid (100 + 2 * i + q)) S.next
 have hmod := tid_mod (100 + 2 * i + q)
 have mem : ∀ j x, (ofL (cl ++ [(arr, .row (arrS q P i p.2.length) 2 false), (199997, .row p.2 1 false)]) (200000 + m)).heap.get j = some x → (j, x) ∈ cl ∨ (j = arr ∧ x = .row (arrS q P i p.2.length) 2 false) ∨ (j = 199997 ∧ x = .row p.2 1 false) := fun j x h => by
  rcases get_putL _ .leaf j x h with h1 | h1
  ·simp [PT.get] at h1
  ·simpa using h1
 refine SB.small2 (l1 := s1.map (fun x => (piF (tid (100 + 2 * i + q)) S.next x.1, x.2))) hC hg hrun (tid (100 + 2 * i + q)) hP.low hn (by omega) rfl rfl hCn' hmm (fun j x hj => ?_) ⟨fun j x hj => ?_, fun k y hy => ?_⟩ hsame hlow ha hb hbl
 ·rcases mem j x hj with h | ⟨rfl, rfl⟩ | ⟨rfl, rfl⟩
  ·obtain ⟨h1, h2, h3, _⟩ := hcl _ h
   simp only at h1 h2 h3
   exact ⟨by omega, x, h2, h3 _ hk⟩
  ·exact ⟨by omega, _, by rw [hk _ harr]; exact hga, .row (arrS_ren hP hq hp)⟩
  ·exact ⟨by omega, _, by rw [show piF (tid (100 + 2 * i + q)) S.next 199997 = tid (100 + 2 * i + q) by unfold piF; rw [if_pos rfl]]; exact hgr, bytes_ren hfit.2 _⟩
 ·rcases mem j x hj with h | ⟨rfl, rfl⟩ | ⟨rfl, rfl⟩
  ·obtain ⟨_, _, _, h5⟩ := hcl _ h
   simp only at h5
   rcases h5 with ⟨y, hy⟩ | h5
   ·exact .inl ⟨y, List.mem_map.2 ⟨_, hy, rfl⟩⟩
   ·exact .inr h5
  ·exact .inr ca
  ·exact .inr cr
 ·obtain ⟨x, hx, hxe⟩ := List.mem_map.1 hy
  cases hxe
  obtain ⟨h2, h3, h4⟩ := hs1 _ hx
  exact ⟨x.1, x.2, rfl, h2, h3 _ hk, fun h => by rw [h4] at h; cases h⟩
theorem SB.near2 (hC : CallSound Tryz.prog call) (hg : goodCode c = true) {N : Nat} (hrun : Runs Tryz.prog okN call fg c a (ofL cl N) e a' C') (hN : N = 200000 + m)
 (hl : LowSt S) (hn : 200000 ≤ S.next) (hCn' : 200000 + m' ≤ C'.next) (hmm : m ≤ C'.next - 200000)
 (hcl : ∀ x, x ∈ cl → (x.1 < 199997 ∨ 200000 ≤ x.1 ∧ x.1 < 200000 + m) ∧ (putU S.heap lb).get (piF 199998 S.next x.1) = some x.2 ∧ LowR 199997 x.2 ∧ ((∃ y, (x.1, y) ∈ s1) ∨ C'.heap.get x.1 = some x.2))
 (hs1 : ∀ x, x ∈ s1 → C'.heap.get x.1 = some x.2 ∧ LowR 199997 x.2 ∧ x.2.ro = false)
 (hsame : ∀ j, (putU S.heap (s1.map (fun x => (piF 199998 S.next x.1, x.2)) ++ lb)).get j = (putU S.heap l).get j) (hlow : ∀ k y, (k, y) ∈ l → k < S.next + m' ∧ LowR (S.next + m') y)
 (ha : SlRen (piF 199998 S.next) a aL) (hb : SlRen (piF 199998 S.next) a' b) (hbl : ∀ i v, slot b i = some v → ∀ π, Keeps (S.next + m') π → RenV π v v) :
 SB Tryz.prog S c aL (S.ups lb (S.next + m)) e b (S.ups l (S.next + m')) := by
 subst hN
 have hk := piF_keeps 199998 S.next
 have mem : ∀ j x, (ofL cl (200000 + m)).heap.get j = some x → (j, x) ∈ cl := fun j x h => by
  rcases get_putL _ .leaf j x h with h1 | h1
  ·simp [PT.get] at h1
  ·exact h1
 refine SB.small2 (l1 := s1.map (fun x => (piF 199998 S.next x.1, x.2))) hC hg hrun 199998 hl hn (by omega) rfl rfl hCn' hmm (fun j x hj => ?_) ⟨fun j x hj => ?_, fun k y hy => ?_⟩ hsame hlow ha hb hbl
 ·obtain ⟨h1, h2, h3, _⟩ := hcl _ (mem j x hj)
  simp only at h1 h2 h3
  exact ⟨by omega, x, h2, h3 _ hk⟩
 ·obtain ⟨_, _, _, h5⟩ := hcl _ (mem j x hj)
  simp only at h5
  rcases h5 with ⟨y, hy⟩ | h5
  ·exact .inl ⟨y, List.mem_map.2 ⟨_, hy, rfl⟩⟩
  ·exact .inr h5
 ·obtain ⟨x, hx, hxe⟩ := List.mem_map.1 hy
  cases hxe
  obtain ⟨h2, h3, h4⟩ := hs1 _ hx
  exact ⟨x.1, x.2, rfl, h2, h3 _ hk, fun h => by rw [h4] at h; cases h⟩
end
section
variable {S C C' : St} {c : Code} {a a' aL b : XAct} {e : XE} {lb l : List (Nat × Ent)} {call : XCall} {fg : Nat → Option Nat} {m : Nat}
theorem SB.small3 (hC : CallSound Tryz.prog call) (hg : goodCode c = true) (hrun : Runs Tryz.prog okN call fg c a C e a' C') (t : Nat)
 (hl : LowSt S) (hn : 200000 ≤ S.next) (ht : t < S.next) (hCn : C.next = 200000 + m) (hCg : C.glob = 0)
 (hc : ∀ i x, C.heap.get i = some x → (i ≤ 199997 ∧ i ≠ t ∨ 200000 ≤ i ∧ i < 200000 + m) ∧ ∃ y, (putU S.heap lb).get (piF t S.next i) = some y ∧ RenE (piF t S.next) x y)
 (hlb : ∀ k y, (k, y) ∈ lb → k < S.next → ∃ z, (k, z) ∈ l)
 (hold : ∀ i x, C.heap.get i = some x → (∃ y, (piF t S.next i, y) ∈ l) ∨ C'.heap.get i = some x ∨ S.next ≤ piF t S.next i)
 (hnew : ∀ k y, (k, y) ∈ l → (∃ i x, k = piF t S.next i ∧ C'.heap.get i = some x ∧ RenE (piF t S.next) x y ∧ y.ro = false) ∨ ((putU S.heap lb).get k = some y ∧ k < S.next + m ∧ ∀ i x, C.heap.get i = some x → k ≠ piF t S.next i))
 (ha : SlRen (piF t S.next) a aL) (hb : SlRen (piF t S.next) a' b) :
 SB Tryz.prog S c aL (S.ups lb (S.next + m)) e b (S.ups l (S.next + m + (C'.next - C.next))) := by
 have em : Emb2 (piF t S.next) C (S.ups lb (S.next + m)) := by
  refine ⟨fun i j x y hi hj hij => ?_, fun i hi => ?_, fun i hi => ?_, hCg⟩
  ·obtain ⟨h1, _⟩ := hc i x hi
   obtain ⟨h3, _⟩ := hc j y hj
   unfold piF at hij
   split at hij
   ·split at hij
    ·omega
    ·split at hij <;> omega
   ·split at hij
    ·split at hij
     ·omega
     ·split at hij <;> omega
    ·split at hij
     ·omega
     ·split at hij <;> omega
  ·rw [hCn] at hi
   show piF t S.next i < S.next + m
   unfold piF
   split
   ·omega
   ·split <;> omega
  ·rw [hCn] at hi
   show piF t S.next i = S.next + m + (i - C.next)
   unfold piF
   rw [if_neg (by omega), if_neg (by omega), hCn]
   omega
 have hc2 : ∀ i x, C.heap.get i = some x → i < C.next ∧ ∃ y, (S.ups lb (S.next + m)).heap.get (piF t S.next i) = some y ∧ RenE (piF t S.next) x y := fun i x hi => by
  obtain ⟨h1, h3⟩ := hc i x hi
  exact ⟨by omega, h3⟩
 refine SB.of (fun α w act Q hr har hQ => ?_)
 refine SR.of mixed okN_ok hC hg hrun (fun i => α (piF t S.next i)) w act Q (hr.small2 em hc2) ⟨by rw [ha.1]; exact har.1, fun i v hi => ?_⟩ (fun βc w' act' hN har' hd => ?_)
 ·obtain ⟨v', h1, h2⟩ := ha.2.1 i v hi
  obtain ⟨u', h3, h4⟩ := har.2 i v' h1
  exact ⟨u', h3, (h2 α u').2 h4⟩
 ·obtain ⟨β, hN', rfl⟩ := Next.large2 (S' := S.ups l (S.next + m + (C'.next - C.next))) hr em hc2 hN rfl rfl (fun k y hk => by
   rcases get_putU l _ k y hk with h1 | ⟨h1, h2⟩
   ·rcases hnew k y h1 with ⟨i, x, hk', hx, hren, hro⟩ | ⟨h3, h4, h5⟩
    ·exact .inl ⟨i, x, hk', hx, hren, fun h => by rw [hro] at h; cases h⟩
    ·exact .inr ⟨h3, h4, h5⟩
   ·have hlt := (hl.2 k y h1).1
    have hnb : ∀ z, (k, z) ∉ lb := fun z hz => by
     obtain ⟨z', hz'⟩ := hlb k z hz hlt
     exact h2 z' hz'
    have hSk : (putU S.heap lb).get k = some y := by rw [get_putU_of _ _ _ hnb]; exact h1
    by_cases hex : ∃ i x, C.heap.get i = some x ∧ k = piF t S.next i
    ·obtain ⟨i, x, hi, rfl⟩ := hex
     rcases hold i x hi with ⟨z, hz⟩ | hz | hz
     ·exact absurd hz (h2 z)
     ·obtain ⟨_, z, hz1, hz2⟩ := hc2 i x hi
      have hz1' : (putU S.heap lb).get (piF t S.next i) = some z := hz1
      rw [hSk] at hz1'; cases hz1'
      exact .inl ⟨i, x, rfl, hz, hz2, fun _ => hSk⟩
     ·omega
    ·exact .inr ⟨hSk, by show k < S.next + m; omega, fun i x hi hk => hex ⟨i, x, hi, hk⟩⟩)
  refine hQ β w' act' hN' ⟨by rw [← hb.1]; exact har'.1, fun i v' hi => ?_⟩ hd
  obtain ⟨v, h1, h2⟩ := hb.2.2 i v' hi
  obtain ⟨u', h3, h4⟩ := har'.2 i v h1
  exact ⟨u', h3, (h2 β u').1 h4⟩
end
theorem Moves.first {S : St} {x n' : Nat} {K : Ent} {a1 b : XAct} (hl : LowSt S) (hx : S.next ≤ x) (hxn : x < n') (hK : LowR S.next K)
 (hlen : List.length b = List.length a1) (ha : ∀ i v, slot b i = some v → ∃ u, slot a1 i = some u ∧ RenV (fun j => if j = S.next then x else if j < S.next then j else n' + j) v u) :
 Moves S a1 (S.ups [(x, K)] n') b (S.ups [(S.next, K)] (S.next + 1)) := by
 refine Moves.named (π := fun j => if j = S.next then x else if j < S.next then j else n' + j) ⟨fun j hj => ?_, fun j e hj => ?_, fun j k e f hj hk hjk => ?_, fun j hj => ?_, Nat.le_succ _, rfl, Nat.le_succ_of_le hl.1, fun j hj => ?_⟩ hlen ha
 ·rw [if_neg (by omega), if_pos hj]
 ·have hj' : (putU S.heap [(S.next, K)]).get j = some e := hj
  simp only [putU, PT.get_set] at hj'
  split at hj'
  ·rename_i h
   subst h
   cases hj'
   refine ⟨Nat.lt_succ_self _, K, ?_, hK _ (fun i hi => by rw [if_neg (by omega), if_pos hi]), fun h => ?_⟩
   ·simp only [if_true, St.ups, putU]; rw [PT.get_set_same]
   ·simp only [if_true] at h; omega
  ·rename_i h
   obtain ⟨h1, h2⟩ := hl.2 j e hj'
   refine ⟨Nat.lt_succ_of_lt h1, e, ?_, h2 _ (fun i hi => by rw [if_neg (by omega), if_pos hi]), fun _ => ⟨by rw [if_neg h, if_pos h1], rfl⟩⟩
   simp only [St.ups, putU]
   rw [if_neg h, if_pos h1, PT.get_set_ne _ _ (by omega)]; exact hj'
 ·have bound : ∀ j e, (S.ups [(S.next, K)] (S.next + 1)).heap.get j = some e → j ≤ S.next := fun j e hj => by
   have hj' : (putU S.heap [(S.next, K)]).get j = some e := hj
   simp only [putU, PT.get_set] at hj'
   split at hj'
   ·omega
   ·have := (hl.2 j e hj').1; omega
  have h1 := bound j e hj
  have h2 := bound k f hk
  split at hjk
  ·split at hjk
   ·omega
   ·split at hjk <;> omega
  ·split at hjk
   ·split at hjk
    ·omega
    ·split at hjk <;> omega
   ·omega
 ·have hj' : S.next + 1 ≤ j := hj
  rw [if_neg (by omega), if_neg (by omega)]
  show n' ≤ n' + j
  omega
 ·have hj' : j < S.glob := hj
  have := hl.1
  rw [if_neg (by omega), if_pos (by omega)]
end Go.Xe
