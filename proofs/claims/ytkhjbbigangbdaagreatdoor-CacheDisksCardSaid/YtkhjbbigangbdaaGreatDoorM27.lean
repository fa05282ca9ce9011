/- A part of the proof. -/
import Derived.Test.YtkhjbbigangbdaaGreatDoorM24
import Derived.Test.YtkhjbbigangbdaaGreatDoorM25
import Derived.Test.YtkhjbbigangbdaaGreatDoorM26
import Derived.Test.YtkhjbbigangbdaaGreatDoorM16
import Derived.Test.YtkhjbbigangbdaaGreatDoorM17
import Derived.Test.YtkhjbbigangbdaaGreatDoorM13
set_option linter.all false
namespace Go.Xe
open Go Go.Proofs
def r1 (t : PT Ent) : PT Ent := .node .leaf none t
def seedX (T : PT Ent) : PT Ent := .node (r1 (r1 (r1 (r1 (r1 (r1 (r1 (r1 (r1 .leaf))))))))) none (r1 (r1 (r1 (r1 (r1 (r1 (r1 (r1 (r1 T)))))))))
def cstX (T : PT Ent) (l : List (Nat × Ent)) (n : Nat) : St := { heap := putL (seedX T) l, next := n, glob := 0 }
theorem seedX_eq (T : PT Ent) : seedX T = seed T .leaf := rfl
theorem cstX_eq (T : PT Ent) (l : List (Nat × Ent)) (n : Nat) : cstX T l n = cst T .leaf l n 0 := by unfold cstX cst; rw [seedX_eq]
noncomputable def holds (p : Prop) : Bool := @decide p (Classical.propDecidable p)
theorem holds_of {p : Prop} (h : p) : holds p = true := @decide_eq_true p (Classical.propDecidable p) h
noncomputable def orcD (P : Pend) (z : Nat) : Orc := fun f => if f = 16 then some (syncF P z) else if f = 21 then some (coveredF P z) else if f = 14 then some (refReadF P z) else if f = 19 then some (refLoseF P z) else if f = 22 then some (flipF P z) else if f = 20 then some (dloseF P z) else none
noncomputable def ycD (P : Pend) (z : Nat) : YCall := ygo Tryz.prog okN (orcD P z) kp 100
theorem okOrcD (P : Pend) (z : Nat) : OrcSound Tryz.prog (orcD P z) := fun f F h => by
 unfold orcD at h
 split at h
 ·rename_i hf; subst hf; cases h; exact fun args S v S' hx α w args' => syncF_sound P z args S v S' hx α w args'
 ·split at h
  ·rename_i hf; subst hf; cases h; exact fun args S v S' hx α w args' => coveredF_sound P z args S v S' hx α w args'
  ·split at h
   ·rename_i hf; subst hf; cases h; exact fun args S v S' hx α w args' => refReadF_sound P z args S v S' hx α w args'
   ·split at h
    ·rename_i hf; subst hf; cases h; exact fun args S v S' hx α w args' => refLoseF_sound P z args S v S' hx α w args'
    ·split at h
     ·rename_i hf; subst hf; cases h; exact fun args S v S' hx α w args' => flipF_sound P z args S v S' hx α w args'
     ·split at h
      ·rename_i hf; subst hf; cases h; exact fun args S v S' hx α w args' => dloseF_sound P z args S v S' hx α w args'
      ·cases h
theorem yxD (P : Pend) (z : Nat) : YX (ycD P z) (xgoO Tryz.prog okN (orcD P z) kp 100) := ygo_is (orcD P z) kp 100
theorem callD (P : Pend) (z : Nat) : CallSound Tryz.prog (xgoO Tryz.prog okN (orcD P z) kp 100) := xgoO_sound mixed okN_ok okN_good (okOrcD P z) kp 100
noncomputable def orcC (P : Pend) (z : Nat) : Orc := fun f => if f = 21 then some (coveredF P z) else none
noncomputable def ycC (P : Pend) (z : Nat) : YCall := ygo Tryz.prog okN (orcC P z) kp 100
theorem okOrcC (P : Pend) (z : Nat) : OrcSound Tryz.prog (orcC P z) := fun f F h => by
 unfold orcC at h
 split at h
 ·rename_i hf; subst hf; cases h; exact fun args S v S' hx α w args' => coveredF_sound P z args S v S' hx α w args'
 ·cases h
theorem yxC (P : Pend) (z : Nat) : YX (ycC P z) (xgoO Tryz.prog okN (orcC P z) kp 100) := ygo_is (orcC P z) kp 100
theorem callC (P : Pend) (z : Nat) : CallSound Tryz.prog (xgoO Tryz.prog okN (orcC P z) kp 100) := xgoO_sound mixed okN_ok okN_good (okOrcC P z) kp 100
noncomputable def tPath (yc : YCall) (a : XAct) (S : St) (p : Path) : YOut := ycode Tryz.prog okN yc (kp 7) 100 (codeOf Tryz.prog 7) a S p
noncomputable def hPath (yc : YCall) (H : Hint) (a : XAct) (S : St) (p : Path) : YOut := hcode Tryz.prog okN yc (kp 7) H 100 (codeOf Tryz.prog 7) a S p
def tTurn (kd at0 n0 : Int) (bv kv : Value) : Value := .agg ⟨[.int .u8 kd, .int .i64 at0, .int .i64 n0, bv, kv]⟩
noncomputable def tArg (kd at0 n0 : Int) (bv kv : Value) : XAct := startX Tryz.f7 [.pointer (some ⟨100003, 0, none⟩), .pointer (some ⟨100008, 0, none⟩), tTurn kd at0 n0 bv kv]
def rV (z : Nat) (now las : List Value) (fu : Int) (off on : Bool) (w1 w2 : Value) : List (Nat × Ent) :=
 [(100003, .row [.pointer (some ⟨100004, 0, none⟩)] 0 false), (100004, dRow z 0 w1 fu off), (100005, .row now 1 false), (100006, .row las 1 false), (100008, rRow z w2 on fu), (100009, .row las 1 false)]
def rP (P : Pend) (z : Nat) (now las : List Value) (fu : Int) (off on : Bool) : List (Nat × Ent) :=
 [(100003, .row [.pointer (some ⟨100004, 0, none⟩)] 0 false), (100004, dRow z 0 (wrV 100007 P.length) fu off), (100005, .row now 1 false), (100006, .row las 1 false), (100007, .row (arrC 0 0 P) 2 false), (100008, rRow z (wrV 100010 P.length) on fu), (100009, .row las 1 false), (100010, .row (arrC 1 0 P) 2 false)]
theorem get_putO2 : ∀ (l : List (Nat × Option Ent)) (t : PT Ent) (i : Nat) (e : Ent), (putO t l).get i = some e → (i, some e) ∈ l ∨ (t.get i = some e ∧ i ∉ l.map (·.1))
 | [], t, i, e, h => .inr ⟨h, by simp⟩
 | p :: r, t, i, e, h => by
  rcases get_putO2 r _ i e h with h1 | ⟨h1, h2⟩
  ·exact .inl (by simp [h1])
  ·rw [PT.get_set] at h1
   split at h1
   ·rename_i hi; subst hi; exact .inl (by rw [← h1]; simp)
   ·rename_i hi
    refine .inr ⟨h1, ?_⟩
    simp only [List.map_cons, List.mem_cons, not_or]
    exact ⟨hi, h2⟩
theorem get_putO_not : ∀ (l : List (Nat × Option Ent)) (t : PT Ent) (i : Nat), i ∉ l.map (·.1) → (putO t l).get i = t.get i
 | [], t, i, h => rfl
 | p :: r, t, i, h => by
  simp only [List.map_cons, List.mem_cons, not_or] at h
  show (putO (t.set p.1 p.2) r).get i = _
  rw [get_putO_not r _ i h.2, PT.get_set_ne _ _ h.1]
theorem get_putO_mem : ∀ (l : List (Nat × Option Ent)) (t : PT Ent) (i : Nat) (o : Option Ent), (l.map (·.1)).Nodup → (i, o) ∈ l → (putO t l).get i = o
 | p :: r, t, i, o, hn, h => by
  simp only [List.map_cons, List.nodup_cons] at hn
  show (putO (t.set p.1 p.2) r).get i = _
  rcases List.mem_cons.1 h with h1 | h1
  ·subst h1
   rw [get_putO_not r _ i hn.1, PT.get_set_same]
  ·exact get_putO_mem r _ i o hn.2 h1
def St.upd (S : St) (l : List (Nat × Option Ent)) (n : Nat) : St := { S with heap := putO S.heap l, next := n }
section
variable {P : Program} {π : Nat → Nat} {C C' S S' : St} {c : Code} {a a' aL aL' : XAct} {e : XE}
theorem SR.lift2 (h : SR P c a C e a' C') (em : Emb2 π C S) (hc : ∀ i x, C.heap.get i = some x → i < C.next ∧ ∃ y, S.heap.get (π i) = some y ∧ RenE π x y)
 (hn : S'.next = S.next + (C'.next - C.next)) (hg : S'.glob = S.glob)
 (hu : ∀ k y, S'.heap.get k = some y → (∃ i x, k = π i ∧ C'.heap.get i = some x ∧ RenE π x y ∧ (y.ro = true → S.heap.get k = some y)) ∨ (S.heap.get k = some y ∧ ∀ i x, C.heap.get i = some x → k ≠ π i))
 (hlen : List.length aL = List.length a) (ha : ∀ i v, slot a i = some v → ∃ v', slot aL i = some v' ∧ RenV π v v')
 (hlen' : List.length aL' = List.length a') (ha' : ∀ i v', slot aL' i = some v' → ∃ v, slot a' i = some v ∧ RenV π v v') :
 SR P c aL S e aL' S' := fun α w act Q hr har hQ => by
 refine h (fun i => α (π i)) w act Q (hr.small2 em hc) ⟨by rw [← hlen]; exact har.1, fun i v hi => ?_⟩ (fun βc w' act' hn0 har' hd => ?_)
 ·obtain ⟨v', h1, h2⟩ := ha i v hi
  obtain ⟨u', h3, h4⟩ := har.2 i v' h1
  exact ⟨u', h3, (h2 α u').2 h4⟩
 ·obtain ⟨β, hn', rfl⟩ := Next.large2 (S' := S') hr em hc hn0 hn hg (fun k y hk => by
   rcases hu k y hk with h1 | ⟨h1, h2⟩
   ·exact .inl h1
   ·exact .inr ⟨h1, hr.live_lt h1, h2⟩)
  refine hQ β w' act' hn' ⟨by rw [hlen']; exact har'.1, fun i v' hi => ?_⟩ hd
  obtain ⟨v, h1, h2⟩ := ha' i v' hi
  obtain ⟨u', h3, h4⟩ := har'.2 i v h1
  exact ⟨u', h3, (h2 β u').1 h4⟩
end
def piT (b k : Nat) : Nat → Nat := fun i => if i = 199997 then b else if i = 199990 then k else i
def Near (e : Ent) : Prop := ∀ b k, RenE (piT b k) e e
theorem piT_other {b k i : Nat} (h1 : i ≠ 199997) (h2 : i ≠ 199990) : piT b k i = i := by unfold piT; rw [if_neg h1, if_neg h2]
theorem piT_keeps (b k : Nat) : Keeps 199990 (piT b k) := fun j hj => piT_other (by omega) (by omega)
theorem Near.low {e : Ent} (h : lowE 199990 e = true) : Near e := fun b k => lowE_ren (piT_keeps b k) h
theorem Near.bytes {cs : List Value} {s : Nat} {ro : Bool} (h : cs.all isByte = true) : Near (.row cs s ro) := fun b k => .row (low1s_ren (piT_keeps b k) (List.all_eq_true.2 fun x hx => by
 have := List.all_eq_true.1 h x hx
 unfold isByte at this
 split at this
 ·rfl
 ·cases this))
structure InT (T : PT Ent) (R X : List (Nat × Ent)) (N b k : Nat) (S : St) : Prop where
 next : S.next = N
 big : 200000 ≤ N
 rows : ∀ p, p ∈ R → S.heap.get p.1 = some p.2 ∧ Near p.2 ∧ p.1 < 199990 ∧ p.1 % 1024 ≠ 1021 ∧ p.1 % 1024 ≠ 1022
 trows : ∀ j e, T.get j = some e → S.heap.get (tid j) = some e ∧ Near e ∧ tid j < 199990
 xrows : ∀ p, p ∈ X → (p.1 = 199997 ∨ p.1 = 199990) ∧ S.heap.get (piT b k p.1) = some p.2 ∧ Near p.2 ∧ p.2.ro = true
 bm : b % 1024 = 1021
 km : k % 1024 = 1021
 bk : b ≠ k
 bN : b < 199990
 kN : k < 199990
section
variable {P : Program} {S C' : St} {c : Code} {a a' aL aL' : XAct} {e : XE} {T : PT Ent} {R X : List (Nat × Ent)} {N b k : Nat} {L' : List (Nat × Option Ent)}
theorem turn_lift (I : InT T R X N b k S) (h : SR P c a (cst T .leaf (R ++ X) N 0) e a' C') (hNN : N ≤ C'.next)
 (hCT : rts 10 C'.heap = T) (hL'U : ∀ p, p ∈ L' → p.1 % 1024 ≠ 1021 ∧ p.1 % 1024 ≠ 1022 ∧ p.1 ≠ 199997 ∧ p.1 ≠ 199990)
 (hold : ∀ p, p ∈ R → p.1 ∈ L'.map (·.1) ∨ C'.heap.get p.1 = some p.2) (hx : ∀ p, p ∈ X → C'.heap.get p.1 = some p.2)
 (hnew : ∀ i y, (i, some y) ∈ L' → C'.heap.get i = some y ∧ Near y ∧ y.ro = false)
 (hlen : List.length aL = List.length a) (ha : ∀ i v, slot a i = some v → ∃ v', slot aL i = some v' ∧ RenV (piT b k) v v')
 (hlen' : List.length aL' = List.length a') (ha' : ∀ i v', slot aL' i = some v' → ∃ v, slot a' i = some v ∧ RenV (piT b k) v v') :
 SR P c aL S e aL' (S.upd L' C'.next) := by
 have tm : ∀ j, tid j % 1024 = 1022 := tid_mod
 have mem : ∀ i x, (cst T .leaf (R ++ X) N 0).heap.get i = some x → (i, x) ∈ R ∨ (i, x) ∈ X ∨ ∃ j, i = tid j ∧ T.get j = some x := fun i x hi => by
  rcases get_cst hi with h1 | ⟨j, h1, h2⟩ | ⟨j, h1, h2⟩
  ·rcases List.mem_append.1 h1 with h2 | h2
   ·exact .inl h2
   ·exact .inr (.inl h2)
  ·exact .inr (.inr ⟨j, h1, h2⟩)
  ·simp [PT.get] at h2
 have tget : ∀ j, C'.heap.get (tid j) = T.get j := fun j => by rw [get_tid, hCT]
 have kind : ∀ i x, (cst T .leaf (R ++ X) N 0).heap.get i = some x → (i < 199990 ∧ i % 1024 ≠ 1021 ∧ piT b k i = i) ∨ (i = 199997 ∧ piT b k i = b) ∨ (i = 199990 ∧ piT b k i = k) := fun i x hi => by
  rcases mem i x hi with h1 | h1 | ⟨j, rfl, h1⟩
  ·obtain ⟨_, _, h2, h3, _⟩ := I.rows _ h1
   exact .inl ⟨h2, h3, piT_keeps b k i h2⟩
  ·rcases (I.xrows _ h1).1 with h2 | h2
   ·simp only at h2; subst h2; exact .inr (.inl ⟨rfl, rfl⟩)
   ·simp only at h2; subst h2; exact .inr (.inr ⟨rfl, rfl⟩)
  ·obtain ⟨_, _, h2⟩ := I.trows _ _ h1
   exact .inl ⟨h2, by rw [tm]; decide, piT_keeps b k _ h2⟩
 have hbig := I.big
 have hbN := I.bN
 have hkN := I.kN
 have em : Emb2 (piT b k) (cst T .leaf (R ++ X) N 0) S := by
  refine ⟨fun i j x y hi hj hij => ?_, fun i hi => ?_, fun i hi => ?_, rfl⟩
  ·have hbm := I.bm
   have hkm := I.km
   have hbk := I.bk
   rcases kind i x hi with ⟨h1, h2, h3⟩ | ⟨h1, h3⟩ | ⟨h1, h3⟩ <;> rcases kind j y hj with ⟨g1, g2, g3⟩ | ⟨g1, g3⟩ | ⟨g1, g3⟩ <;> rw [h3, g3] at hij <;> first | omega | (subst hij; omega)
  ·rw [I.next]
   have hi' : i < N := hi
   unfold piT
   split
   ·omega
   ·split <;> omega
  ·have hi' : N ≤ i := hi
   rw [piT_other (by omega) (by omega), I.next]
   show i = N + (i - N)
   omega
 have hc : ∀ i x, (cst T .leaf (R ++ X) N 0).heap.get i = some x → i < (cst T .leaf (R ++ X) N 0).next ∧ ∃ y, S.heap.get (piT b k i) = some y ∧ RenE (piT b k) x y := fun i x hi => by
  refine ⟨?_, x, ?_⟩
  ·show i < N
   rcases kind i x hi with ⟨h1, _, _⟩ | ⟨h1, _⟩ | ⟨h1, _⟩ <;> omega
  ·rcases mem i x hi with h1 | h1 | ⟨j, rfl, h1⟩
   ·obtain ⟨h2, h3, h4, _⟩ := I.rows _ h1
    simp only at h2 h4
    rw [piT_keeps b k i h4]; exact ⟨h2, h3 b k⟩
   ·obtain ⟨_, h2, h3, _⟩ := I.xrows _ h1
    exact ⟨h2, h3 b k⟩
   ·obtain ⟨h2, h3, h4⟩ := I.trows _ _ h1
    rw [piT_keeps b k _ h4]; exact ⟨h2, h3 b k⟩
 refine SR.lift2 h em hc (by show C'.next = S.next + (C'.next - N); rw [I.next]; omega) rfl (fun i y hi => ?_) hlen ha hlen' ha'
 rcases get_putO2 L' _ i y hi with h1 | ⟨h1, h2⟩
 ·obtain ⟨h3, h4, h5⟩ := hnew i y h1
  obtain ⟨g1, g2, g3, g4⟩ := hL'U _ h1
  exact .inl ⟨i, y, (piT_other g3 g4).symm, h3, h4 b k, fun h => by rw [h5] at h; cases h⟩
 ·by_cases hex : ∃ j x, (cst T .leaf (R ++ X) N 0).heap.get j = some x ∧ i = piT b k j
  ·obtain ⟨j, x, hj, rfl⟩ := hex
   refine .inl ⟨j, x, rfl, ?_, ?_, fun _ => h1⟩
   ·rcases mem j x hj with g1 | g1 | ⟨m, rfl, g1⟩
    ·rcases hold _ g1 with g2 | g2
     ·exact absurd g2 (by rw [← piT_keeps b k j (I.rows _ g1).2.2.1]; exact h2)
     ·exact g2
    ·exact hx _ g1
    ·rw [tget]; exact g1
   ·obtain ⟨_, y', h4, h5⟩ := hc j x hj
    rw [h1] at h4; cases h4
    exact h5
  ·exact .inr ⟨h1, fun j x hj hij => hex ⟨j, x, hj, hij⟩⟩
end
def tRows : Nat → Pend → List (Nat × Ent)
 | _, [] => []
 | j, p :: r => (100 + 2 * j, .row p.2 1 false) :: (101 + 2 * j, .row p.2 1 false) :: tRows (j + 1) r
def tOf (P : Pend) : PT Ent := putL .leaf (tRows 0 P)
theorem mem_tRows {m : Nat} {e : Ent} : ∀ (P : Pend) (j : Nat), (m, e) ∈ tRows j P → ∃ i p q, P[i]? = some p ∧ q < 2 ∧ m = 100 + 2 * (j + i) + q ∧ e = .row p.2 1 false
 | [], j, h => by cases h
 | p :: r, j, h => by
  simp only [tRows, List.mem_cons, Prod.mk.injEq] at h
  rcases h with ⟨rfl, rfl⟩ | ⟨rfl, rfl⟩ | h
  ·exact ⟨0, p, 0, rfl, by omega, rfl, rfl⟩
  ·exact ⟨0, p, 1, rfl, by omega, by omega, rfl⟩
  ·obtain ⟨i, p', q, h1, h2, h3, h4⟩ := mem_tRows r (j + 1) h
   exact ⟨i + 1, p', q, by simpa using h1, h2, by omega, h4⟩
theorem tRows_mem {i q : Nat} {p : Nat × List Value} (hq : q < 2) : ∀ (P : Pend) (j : Nat), P[i]? = some p → (100 + 2 * (j + i) + q, Ent.row p.2 1 false) ∈ tRows j P := by
 induction i with
 | zero =>
  intro P j h
  cases P with
  | nil => simp at h
  | cons x r =>
   simp at h; subst h
   have : q = 0 ∨ q = 1 := by omega
   rcases this with rfl | rfl
   ·simp only [tRows, Nat.add_zero, List.mem_cons, true_or]
   ·simp only [tRows, Nat.add_zero, List.mem_cons, Prod.mk.injEq, show 100 + 2 * j + 1 = 101 + 2 * j by omega, and_true, true_or, or_true]
 | succ i ih =>
  intro P j h
  cases P with
  | nil => simp at h
  | cons x r =>
   have := ih r (j + 1) (by simpa using h)
   rw [show j + 1 + i = j + (i + 1) by omega] at this
   simp only [tRows, List.mem_cons, this, or_true]
theorem tRows_nodup : ∀ (P : Pend) (j : Nat), ((tRows j P).map (·.1)).Nodup
 | [], j => List.nodup_nil
 | p :: r, j => by
  have key : ∀ m, m ∈ (tRows (j + 1) r).map (·.1) → 102 + 2 * j ≤ m := fun m hm => by
   obtain ⟨x, hx, rfl⟩ := List.mem_map.1 hm
   obtain ⟨i, p', q, _, _, h3, _⟩ := mem_tRows (m := x.1) (e := x.2) r (j + 1) hx
   omega
  simp only [tRows, List.map_cons, List.nodup_cons, List.mem_cons, not_or]
  exact ⟨⟨by omega, fun h => by have := key _ h; omega⟩, fun h => by have := key _ h; omega, tRows_nodup r (j + 1)⟩
theorem get_putL_mem : ∀ (l : List (Nat × Ent)) (t : PT Ent) (i : Nat) (e : Ent), (l.map (·.1)).Nodup → (i, e) ∈ l → (putL t l).get i = some e
 | p :: r, t, i, e, hn, h => by
  simp only [List.map_cons, List.nodup_cons] at hn
  show (putL (t.set p.1 (some p.2)) r).get i = _
  rcases List.mem_cons.1 h with h1 | h1
  ·subst h1
   rw [get_putL_of r _ _ (fun y hy => hn.1 (List.mem_map.2 ⟨_, hy, rfl⟩)), PT.get_set_same]
  ·exact get_putL_mem r _ i e hn.2 h1
theorem tOf_get {P : Pend} {i q : Nat} {p : Nat × List Value} (hq : q < 2) (h : P[i]? = some p) : (tOf P).get (100 + 2 * i + q) = some (.row p.2 1 false) := by
 have := tRows_mem hq P 0 h
 rw [Nat.zero_add] at this
 exact get_putL_mem _ _ _ _ (tRows_nodup P 0) this
theorem tOf_inv {P : Pend} {m : Nat} {e : Ent} (h : (tOf P).get m = some e) : ∃ i p q, P[i]? = some p ∧ q < 2 ∧ m = 100 + 2 * i + q ∧ e = .row p.2 1 false := by
 rcases get_putL _ _ _ _ h with h1 | h1
 ·simp [PT.get] at h1
 ·obtain ⟨i, p, q, h2, h3, h4, h5⟩ := mem_tRows P 0 h1
  exact ⟨i, p, q, h2, h3, by omega, h5⟩
def wD : Pend → Value
 | [] => .slice none 0 0
 | p :: r => wrV 100007 (r.length + 1)
def wS : Pend → Value
 | [] => .slice none 0 0
 | p :: r => wrV 100010 (r.length + 1)
def kArr : Pend → List (Nat × Ent)
 | [] => []
 | p :: r => [(100007, .row (arrC 0 0 (p :: r)) 2 false), (100010, .row (arrC 1 0 (p :: r)) 2 false)]
def kMain (P : Pend) (z : Nat) (las : List Value) (fu : Int) (off : Bool) : List (Nat × Ent) :=
 [(100003, .row [.pointer (some ⟨100004, 0, none⟩)] 0 false), (100004, dRow z 0 (wD P) fu off), (100005, .row (applyP las P) 1 false), (100006, .row las 1 false), (100008, rRow z (wS P) (!off) fu), (100009, .row las 1 false)]
def kPend (P : Pend) : List (Nat × Ent) := (tRows 0 P).map fun p => (tid p.1, p.2)
def kRows (P : Pend) (z : Nat) (las : List Value) (fu : Int) (off : Bool) : List (Nat × Ent) := kMain P z las fu off ++ (kArr P ++ kPend P)
def kSt (B0 : St) (P : Pend) (z : Nat) (las : List Value) (fu : Int) (off : Bool) : St := { heap := putL B0.heap (kRows P z las fu off), next := 200000, glob := B0.glob }
theorem kSt_heap (B0 : St) (P : Pend) (z : Nat) (las : List Value) (fu : Int) (off : Bool) : (kSt B0 P z las fu off).heap = putL B0.heap (kRows P z las fu off) := by
 simp only [kSt]
structure DInv (n : Nat) (P : Pend) (z : Nat) (las : List Value) (fu : Int) : Prop where
 many : P.length ≤ n
 n40 : n ≤ 40
 size : z < 20000
 pos : 0 < z
 fits : FitsP z P
 len : las.length = z
 bytes : las.all isByte = true
 lo : -1 ≤ fu
 hi : fu < (2 : Int) ^ 63
theorem mem_kPend {P : Pend} {m : Nat} {e : Ent} (h : (m, e) ∈ kPend P) : ∃ i p q, P[i]? = some p ∧ q < 2 ∧ m = tid (100 + 2 * i + q) ∧ e = .row p.2 1 false := by
 obtain ⟨x, hx, hxe⟩ := List.mem_map.1 h
 cases hxe
 obtain ⟨i, p, q, h2, h3, h4, h5⟩ := mem_tRows P 0 hx
 exact ⟨i, p, q, h2, h3, by rw [h4, Nat.zero_add], h5⟩
theorem kPend_mem {P : Pend} {i q : Nat} {p : Nat × List Value} (hq : q < 2) (h : P[i]? = some p) : (tid (100 + 2 * i + q), Ent.row p.2 1 false) ∈ kPend P := by
 have := tRows_mem hq P 0 h
 rw [Nat.zero_add] at this
 exact List.mem_map.2 ⟨_, this, rfl⟩
theorem tid_inj {i j : Nat} (h : tid i = tid j) : i = j := by unfold tid at h; omega
theorem kRows_nodup {P : Pend} {z : Nat} {las : List Value} {fu : Int} {off : Bool} : ((kRows P z las fu off).map (·.1)).Nodup := by
 have hp : ((kPend P).map (·.1)).Nodup := by
  have h := tRows_nodup P 0
  rw [List.Nodup, List.pairwise_map] at h ⊢
  unfold kPend
  rw [List.pairwise_map]
  exact h.imp fun hab hc => hab (tid_inj hc)
 have hm : ∀ m, m ∈ (kPend P).map (·.1) → m % 1024 = 1022 := fun m hm => by
  obtain ⟨x, hx, rfl⟩ := List.mem_map.1 hm
  obtain ⟨i, p, q, _, _, h3, _⟩ := mem_kPend (m := x.1) (e := x.2) hx
  rw [h3]; exact tid_mod _
 unfold kRows
 cases P with
 | nil =>
  simp only [kMain, kArr, kPend, tRows, List.map_append, List.map_cons, List.map_nil, List.append_nil]
  decide
 | cons p r =>
  rw [← List.append_assoc, List.map_append, List.nodup_append]
  refine ⟨by simp only [kMain, kArr, List.cons_append, List.nil_append, List.map_cons, List.map_nil]; decide, hp, fun a ha b hb hab => ?_⟩
  subst hab
  have := hm a hb
  simp only [kMain, kArr, List.cons_append, List.nil_append, List.map_cons, List.map_nil, List.mem_cons, List.not_mem_nil, or_false] at ha
  rcases ha with rfl | rfl | rfl | rfl | rfl | rfl | rfl | rfl <;> omega
section
variable {n : Nat} {P : Pend} {z : Nat} {las : List Value} {fu : Int} {off : Bool} {B0 : St}
theorem k_get {i : Nat} {e : Ent} (h : (i, e) ∈ kRows P z las fu off) : (kSt B0 P z las fu off).heap.get i = some e := by
 rw [kSt_heap]; exact get_putL_mem _ _ _ _ kRows_nodup h
theorem k_getM {i : Nat} {e : Ent} (h : (i, e) ∈ kMain P z las fu off) : (kSt B0 P z las fu off).heap.get i = some e := k_get (List.mem_append.2 (.inl h))
theorem k_getA {i : Nat} {e : Ent} (h : (i, e) ∈ kArr P) : (kSt B0 P z las fu off).heap.get i = some e := k_get (List.mem_append.2 (.inr (List.mem_append.2 (.inl h))))
theorem k_getT {i q : Nat} {p : Nat × List Value} (hq : q < 2) (h : P[i]? = some p) : (kSt B0 P z las fu off).heap.get (tid (100 + 2 * i + q)) = some (.row p.2 1 false) := k_get (List.mem_append.2 (.inr (List.mem_append.2 (.inr (kPend_mem hq h)))))
theorem k_inv {i : Nat} {e : Ent} (h : (kSt B0 P z las fu off).heap.get i = some e) : (i, e) ∈ kRows P z las fu off ∨ B0.heap.get i = some e := by
 rw [kSt_heap] at h
 rcases get_putL _ _ _ _ h with h1 | h1
 ·exact .inr h1
 ·exact .inl h1
theorem k_big {i : Nat} {e : Ent} (h : (i, e) ∈ kRows P z las fu off) : 100003 ≤ i := by
 rcases List.mem_append.1 h with h | h
 ·simp only [kMain, List.mem_cons, List.not_mem_nil, or_false, Prod.mk.injEq] at h
  rcases h with h | h | h | h | h | h <;> omega
 ·rcases List.mem_append.1 h with h | h
  ·cases P with
   | nil => cases h
   | cons p r =>
    simp only [kArr, List.mem_cons, List.not_mem_nil, or_false, Prod.mk.injEq] at h
    rcases h with h | h <;> omega
  ·obtain ⟨i, p, q, _, _, rfl, _⟩ := mem_kPend h
   unfold tid; omega
theorem k_old {i : Nat} (hi : i < 100003) : (kSt B0 P z las fu off).heap.get i = B0.heap.get i := by
 rw [kSt_heap]; exact get_putL_of _ _ _ (fun y hy => by have := k_big hy; omega)
theorem wD_cons {P : Pend} (h : P ≠ []) : wD P = wrV 100007 P.length := by cases P with | nil => exact absurd rfl h | cons p r => rfl
theorem wS_cons {P : Pend} (h : P ≠ []) : wS P = wrV 100010 P.length := by cases P with | nil => exact absurd rfl h | cons p r => rfl
theorem kArr_cons {P : Pend} (h : P ≠ []) : kArr P = [(100007, .row (arrC 0 0 P) 2 false), (100010, .row (arrC 1 0 P) 2 false)] := by cases P with | nil => exact absurd rfl h | cons p r => rfl
variable (I : DInv n P z las fu)
include I
theorem now_bytes : (applyP las P).all isByte = true := applyP_bytes P las I.fits I.bytes
theorem now_len : (applyP las P).length = z := applyP_length P las I.fits I.len
theorem arr_low (q : Nat) (hq : q < 2) : (arrC q 0 P).all (low1 199990) = true :=
 arrC_low q 199990 P 0 (by have := I.many; have := I.n40; unfold tid; omega)
theorem k_low {i : Nat} {e : Ent} (h : (i, e) ∈ kMain P z las fu off ++ kArr P) : LowR 199990 e ∧ i < 199990 ∧ i % 1024 ≠ 1021 ∧ i % 1024 ≠ 1022 := by
 have hw : low1 199990 (wD P) = true ∧ low1 199990 (wS P) = true := by cases P <;> exact ⟨rfl, rfl⟩
 rcases List.mem_append.1 h with h | h
 ·simp only [kMain, List.mem_cons, List.not_mem_nil, or_false, Prod.mk.injEq] at h
  rcases h with ⟨rfl, rfl⟩ | ⟨rfl, rfl⟩ | ⟨rfl, rfl⟩ | ⟨rfl, rfl⟩ | ⟨rfl, rfl⟩ | ⟨rfl, rfl⟩
  ·exact ⟨fun π hk => lowE_ren hk rfl, by decide⟩
  ·exact ⟨fun π hk => lowE_ren hk (by simp only [dRow, lowE, List.all_cons, hw.1]; rfl), by decide⟩
  ·exact ⟨fun π hk => bytes_ren (now_bytes I) π, by decide⟩
  ·exact ⟨fun π hk => bytes_ren I.bytes π, by decide⟩
  ·exact ⟨fun π hk => lowE_ren hk (by simp only [rRow, lowE, List.all_cons, hw.2]; rfl), by decide⟩
  ·exact ⟨fun π hk => bytes_ren I.bytes π, by decide⟩
 ·cases P with
  | nil => cases h
  | cons p r =>
   simp only [kArr, List.mem_cons, List.not_mem_nil, or_false, Prod.mk.injEq] at h
   rcases h with ⟨rfl, rfl⟩ | ⟨rfl, rfl⟩
   ·exact ⟨fun π hk => lowE_ren hk (arr_low I 0 (by decide)), by decide⟩
   ·exact ⟨fun π hk => lowE_ren hk (arr_low I 1 (by decide)), by decide⟩
theorem k_inT {R X : List (Nat × Ent)} {b k : Nat} (hR : ∀ p, p ∈ R → p ∈ kMain P z las fu off ++ kArr P)
 (hX : ∀ p, p ∈ X → (p.1 = 199997 ∨ p.1 = 199990) ∧ B0.heap.get (piT b k p.1) = some p.2 ∧ Near p.2 ∧ p.2.ro = true)
 (hb : b % 1024 = 1021 ∧ b < 100003) (hk : k % 1024 = 1021 ∧ k < 100003) (hbk : b ≠ k) : InT (tOf P) R X 200000 b k (kSt B0 P z las fu off) := by
 have hb2 := hb.2
 have hk2 := hk.2
 refine ⟨rfl, Nat.le_refl _, fun p hp => ?_, fun j e hj => ?_, fun p hp => ?_, hb.1, hk.1, hbk, by omega, by omega⟩
 ·obtain ⟨h1, h2, h3, h4⟩ := k_low I (hR p hp)
  refine ⟨?_, fun b k => h1 _ (piT_keeps b k), h2, h3, h4⟩
  rcases List.mem_append.1 (hR p hp) with h | h
  ·exact k_getM h
  ·exact k_getA h
 ·obtain ⟨i, p, q, h1, h2, rfl, rfl⟩ := tOf_inv hj
  refine ⟨k_getT h2 h1, Near.bytes (I.fits p (List.mem_of_getElem? h1)).2, ?_⟩
  have := (List.getElem?_eq_some_iff.1 h1).1
  have := I.many; have := I.n40
  unfold tid; omega
 ·obtain ⟨h1, h2, h3, h4⟩ := hX p hp
  refine ⟨h1, ?_, h3, h4⟩
  rw [k_old ?_]
  ·exact h2
  ·rcases h1 with h1 | h1 <;> rw [h1] <;> simp only [piT] <;> first | exact hb2 | exact hk2
end
def piM (M : List (Nat × Nat)) (n : Nat) : Nat → Nat := fun j => match M.lookup j with
 | some v => v
 | none => if j < 200000 then j else n + (j - 200000)
section
variable {P P' : Pend} {z z' : Nat} {las las' : List Value} {fu fu' : Int} {off off' : Bool} {B0 S' : St} {π : Nat → Nat}
theorem k_named (hB : LowSt B0) (hBn : B0.next = 100003) (old : ∀ j, j < 100003 → π j = j) (hg : S'.glob = B0.glob)
 (hb : ∀ j, j < 100003 → S'.heap.get j = B0.heap.get j)
 (hr : ∀ j e, (j, e) ∈ kRows P' z' las' fu' off' → ∃ x, S'.heap.get (π j) = some x ∧ RenE π e x ∧ 100003 ≤ π j ∧ j < 200000)
 (inj : ∀ j k e f, (j, e) ∈ kRows P' z' las' fu' off' → (k, f) ∈ kRows P' z' las' fu' off' → π j = π k → j = k)
 (none : ∀ j, 200000 ≤ j → S'.next ≤ π j) : Named π B0 (kSt B0 P' z' las' fu' off') S' := by
 have hlt : ∀ j e, B0.heap.get j = some e → j < 100003 := fun j e h => by rw [← hBn]; exact (hB.2 j e h).1
 refine ⟨fun j hj => old j (by rw [← hBn]; exact hj), fun j e hj => ?_, fun j k e f hj hk hjk => ?_, fun j hj => none j hj, by rw [hBn]; show 100003 ≤ 200000; decide, hg.symm, by show B0.glob ≤ 200000; have := hB.1; omega, fun j hj => old j (by have := hB.1; have hj' : j < B0.glob := hj; omega)⟩
 ·rcases k_inv hj with h | h
  ·obtain ⟨x, h1, h2, h3, h4⟩ := hr j e h
   exact ⟨h4, x, h1, h2, fun h5 => by rw [hBn] at h5; omega⟩
  ·have h1 := hlt j e h
   have h2 := (hB.2 j e h).2 π (fun i hi => old i (by rw [← hBn]; exact hi))
   exact ⟨by show j < 200000; omega, e, by rw [old j h1, hb j h1]; exact h, h2, fun _ => ⟨old j h1, rfl⟩⟩
 ·rcases k_inv hj with h | h <;> rcases k_inv hk with h' | h'
  ·exact inj j k e f h h' hjk
  ·have h1 := hlt k f h'
   obtain ⟨_, _, _, h3, _⟩ := hr j e h
   rw [old k h1] at hjk; omega
  ·have h1 := hlt j e h
   obtain ⟨_, _, _, h3, _⟩ := hr k f h'
   rw [old j h1] at hjk; omega
  ·rw [old j (hlt j e h), old k (hlt k f h')] at hjk; exact hjk
end
def CallsTo (f : FuncId) (args : List Value) (S : St) (v : Value) (S' : St) : Prop :=
 ∀ (α : Place) (w : World) (args' : Array Value), Rel α S w → LRel α args args'.toList → Calls Tryz.prog f args' w fun e w' => ∃ β v', e = .returned v' ∧ Next α S w β S' w' ∧ VRel β v v'
theorem good7 : goodCode (codeOf Tryz.prog 7) = true := by kernel_rfl
theorem body7 : Tryz.f7.body = some (codeOf Tryz.prog 7) := by kernel_rfl
def tRet : XAct := nn 6 ++ [some (Value.bool true)] ++ nn 133
theorem tRet_res (S : St) : xres Tryz.prog Tryz.f7 tRet S = some (.bool true) := by kernel_rfl
theorem tRet_slot {i : Nat} {v : Value} (h : slot tRet i = some v) : v = .bool true := by
 unfold slot at h
 split at h
 ·rename_i o ho
  subst h
  have hm := List.mem_of_getElem? ho
  simp [tRet, nn] at hm
  exact hm
 ·cases h
theorem startX_ren {π : Nat → Nat} {fn : Func} {args args' : List Value} (h : RenL π args args') : ∀ i v, slot (startX fn args) i = some v → ∃ v', slot (startX fn args') i = some v' ∧ RenV π v v' := by
 intro i v hv
 unfold slot startX at hv
 by_cases hi : i < args.length
 ·rw [List.getElem?_append_left (by simpa using hi), List.getElem?_map, List.getElem?_eq_getElem hi] at hv
  have hv : some args[i] = some v := hv
  cases hv
  have hi' : i < args'.length := by rw [← h.1]; exact hi
  refine ⟨args'[i], ?_, h.2 i _ _ (List.getElem?_eq_getElem hi) (List.getElem?_eq_getElem hi')⟩
  unfold slot startX
  rw [List.getElem?_append_left (by simpa using hi'), List.getElem?_map, List.getElem?_eq_getElem hi']
  rfl
 ·rw [List.getElem?_append_right (by simpa using hi), List.getElem?_replicate] at hv
  split at hv
  ·rename_i h2
   split at h2 <;> simp at h2
   subst h2; cases hv
  ·cases hv
def keepR (R : List (Nat × Ent)) (L : List (Nat × Option Ent)) : List (Nat × Ent) := R.filter fun p => !(L.map (·.1)).contains p.1
def tArgs (kd at0 n0 : Int) (bv kv : Value) : List Value := [.pointer (some ⟨100003, 0, none⟩), .pointer (some ⟨100008, 0, none⟩), tTurn kd at0 n0 bv kv]
section
variable {n : Nat} {P : Pend} {z : Nat} {las : List Value} {fu kd at0 n0 : Int} {off : Bool} {B0 C' : St} {R X : List (Nat × Ent)} {b k : Nat} {bv kv bS kS : Value} {call : XCall} {L' : List (Nat × Option Ent)}
theorem map_some_eq {α β : Type} {l : List α} {f g : α → β} (h : l.map f = l.map g) : ∀ x, x ∈ l → f x = g x := List.map_inj_left.1 h
theorem turn_calls (I : DInv n P z las fu) (hC : CallSound Tryz.prog call)
 (hrun : Runs Tryz.prog okN call (kp 7) (codeOf Tryz.prog 7) (tArg kd at0 n0 bv kv) (cstX (tOf P) (R ++ X) 200000) .ret tRet C')
 (hR : ∀ p, p ∈ R → p ∈ kMain P z las fu off ++ kArr P)
 (hX : ∀ p, p ∈ X → (p.1 = 199997 ∨ p.1 = 199990) ∧ B0.heap.get (piT b k p.1) = some p.2 ∧ Near p.2 ∧ p.2.ro = true)
 (hb : b % 1024 = 1021 ∧ b < 100003) (hk : k % 1024 = 1021 ∧ k < 100003) (hbk : b ≠ k) (hbv : RenV (piT b k) bv bS) (hkv : RenV (piT b k) kv kS)
 (hNN : Nat.ble 200000 C'.next = true) (hCT : rts 10 C'.heap = tOf P)
 (hU : (L'.all fun p => p.1 % 1024 != 1021 && p.1 % 1024 != 1022 && p.1 != 199997 && p.1 != 199990) = true)
 (hold : (keepR R L').map (fun p => C'.heap.get p.1) = (keepR R L').map (fun p => some p.2)) (hx : X.map (fun p => C'.heap.get p.1) = X.map (fun p => some p.2))
 (hnew : L'.map (fun p => p.2.bind fun _ => C'.heap.get p.1) = L'.map (·.2)) (hnear : ∀ i y, (i, some y) ∈ L' → Near y ∧ y.ro = false) :
 CallsTo 7 (tArgs kd at0 n0 bS kS) (kSt B0 P z las fu off) (.bool true) ((kSt B0 P z las fu off).upd L' C'.next) := by
 have sr := SR.of mixed okN_ok hC good7 hrun
 rw [cstX_eq] at sr
 have hpt : RenV (piT b k) (.pointer (some ⟨100003, 0, none⟩)) (.pointer (some ⟨100003, 0, none⟩)) := low_ren (piT_keeps b k) rfl
 have hpt2 : RenV (piT b k) (.pointer (some ⟨100008, 0, none⟩)) (.pointer (some ⟨100008, 0, none⟩)) := low_ren (piT_keeps b k) rfl
 have htu : RenV (piT b k) (tTurn kd at0 n0 bv kv) (tTurn kd at0 n0 bS kS) := .agg (.cons (.int _ _) (.cons (.int _ _) (.cons (.int _ _) (.cons hbv (.cons hkv .nil)))))
 have hargs : RenL (piT b k) [.pointer (some ⟨100003, 0, none⟩), .pointer (some ⟨100008, 0, none⟩), tTurn kd at0 n0 bv kv] (tArgs kd at0 n0 bS kS) := .cons hpt (.cons hpt2 (.cons htu .nil))
 have hl := turn_lift (aL := startX Tryz.f7 (tArgs kd at0 n0 bS kS)) (aL' := tRet) (L' := L') (k_inT I hR hX hb hk hbk) sr (Nat.le_of_ble_eq_true hNN) hCT (fun p hp => ?_) (fun p hp => ?_) (map_some_eq hx) (fun i y hi => ?_) (by simp [tArg, startX, tArgs]) (startX_ren hargs) rfl (fun i v hv => ⟨v, hv, by rw [tRet_slot hv]; exact .bool _⟩)
 ·exact fun α w args' hr ha => SR.calls Tryz.func7 body7 hl (.inr rfl) (tRet_res _) hr ha
 ·have := List.all_eq_true.1 hU p hp
  simpa [and_assoc] using this
 ·by_cases hc : p.1 ∈ L'.map (·.1)
  ·exact .inl hc
  ·exact .inr (map_some_eq hold p (List.mem_filter.2 ⟨hp, by simpa using hc⟩))
 ·obtain ⟨h1, h2⟩ := hnear i y hi
  exact ⟨by simpa using map_some_eq hnew _ hi, h1, h2⟩
end
structure TurnTo (B0 : St) (args : List Value) (K K' : St) : Prop where
 out : ∃ (S' : St) (d : Nat) (π : Nat → Nat), CallsTo 7 args K (.bool true) S' ∧ S'.heap.get 100003 = some (.row [.pointer (some ⟨d, 0, none⟩)] 0 false) ∧ Named π B0 K' S' ∧ π 100003 = 100003 ∧ π 100008 = 100008
section
variable {n : Nat} {P P' : Pend} {z : Nat} {las las' : List Value} {fu fu' : Int} {off off' : Bool} {B0 : St} {args : List Value} {L' : List (Nat × Option Ent)} {N' : Nat}
theorem upd_next (S : St) (l : List (Nat × Option Ent)) (m : Nat) : (S.upd l m).next = m := rfl
theorem upd_heap (S : St) (l : List (Nat × Option Ent)) (m : Nat) : (S.upd l m).heap = putO S.heap l := rfl
theorem lookup_none {M : List (Nat × Nat)} {j : Nat} (h : j ∉ M.map (·.1)) : M.lookup j = none := by
 induction M with
 | nil => rfl
 | cons p r ih =>
  simp only [List.map_cons, List.mem_cons, not_or] at h
  obtain ⟨a, c⟩ := p
  rw [List.lookup_cons]
  have : (j == a) = false := by simpa using h.1
  rw [this]
  exact ih h.2
theorem piM_id {M : List (Nat × Nat)} {n j : Nat} (h : j ∉ M.map (·.1)) (hj : j < 200000) : piM M n j = j := by
 unfold piM; rw [lookup_none h]; exact if_pos hj
theorem piM_new {M : List (Nat × Nat)} {n j : Nat} (h : j ∉ M.map (·.1)) (hj : 200000 ≤ j) : piM M n j = n + (j - 200000) := by
 unfold piM; rw [lookup_none h]; exact if_neg (by omega)
theorem turn_same (hB : LowSt B0) (hBn : B0.next = 100003) (I' : DInv n P' z las' fu') (hc : CallsTo 7 args (kSt B0 P z las fu off) (.bool true) ((kSt B0 P z las fu off).upd L' N'))
 (hN : 200000 ≤ N') (hL : ∀ p, p ∈ L' → 100003 ≤ p.1) (hv : (100003, .row [.pointer (some ⟨100004, 0, none⟩)] 0 false) ∈ kMain P' z las' fu' off' → True)
 (hr : ∀ j e, (j, e) ∈ kRows P' z las' fu' off' → ((kSt B0 P z las fu off).upd L' N').heap.get j = some e) : TurnTo B0 args (kSt B0 P z las fu off) (kSt B0 P' z las' fu' off') := by
 have hπ : ∀ j, j < 200000 → piM [] N' j = j := fun j hj => piM_id (by simp) hj
 have hlt : ∀ j e, (j, e) ∈ kRows P' z las' fu' off' → j < 200000 ∧ LowR 199990 e := fun j e h => by
  have h' := h
  rw [kRows, ← List.append_assoc] at h'
  rcases List.mem_append.1 h' with h1 | h1
  ·obtain ⟨h2, h3, _⟩ := k_low I' h1
   exact ⟨by omega, h2⟩
  ·obtain ⟨i, p, q, g1, g2, rfl, rfl⟩ := mem_kPend h1
   have := (List.getElem?_eq_some_iff.1 g1).1
   have := I'.many; have := I'.n40
   exact ⟨by unfold tid; omega, fun π _ => bytes_ren (I'.fits p (List.mem_of_getElem? g1)).2 π⟩
 refine ⟨_, 100004, piM [] N', hc, hr _ _ (List.mem_append.2 (.inl (by simp [kMain]))), k_named hB hBn (fun j hj => hπ j (by omega)) rfl (fun j hj => ?_) (fun j e h => ?_) (fun j k e f hj hk hjk => ?_) (fun j hj => ?_), hπ _ (by omega), hπ _ (by omega)⟩
 ·rw [upd_heap, get_putO_not _ _ _ (fun hm => ?_)]
  ·exact k_old hj
  ·obtain ⟨p, hp, hpe⟩ := List.mem_map.1 hm
   have := hL p hp; omega
 ·obtain ⟨h1, h2⟩ := hlt j e h
  refine ⟨e, by rw [hπ j h1]; exact hr j e h, h2 _ (fun i hi => hπ i (by omega)), by rw [hπ j h1]; exact k_big h, h1⟩
 ·rw [hπ j (hlt j e hj).1, hπ k (hlt k f hk).1] at hjk; exact hjk
 ·rw [piM_new (by simp) hj, upd_next]; omega
end
end Go.Xe
