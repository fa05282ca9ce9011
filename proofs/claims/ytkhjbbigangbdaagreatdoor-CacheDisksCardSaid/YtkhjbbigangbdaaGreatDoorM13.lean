/- A part of the proof. -/
import Derived.Test.YtkhjbbigangbdaaGreatDoorM07
import Derived.Test.YtkhjbbigangbdaaGreatDoorM12
set_option linter.all false
namespace Go.Xe
open Go Go.Proofs
def rgt : Nat → PT Ent → PT Ent
 | 0, t => t
 | n + 1, t => .node .leaf none (rgt n t)
def seed (T U : PT Ent) : PT Ent := .node (rgt 9 U) none (rgt 9 T)
def tid (j : Nat) : Nat := 1024 * j + 2046
def uid (j : Nat) : Nat := 1024 * j + 2045
def rt : PT Ent → PT Ent
 | .node _ _ r => r
 | .leaf => .leaf
def lf : PT Ent → PT Ent
 | .node l _ _ => l
 | .leaf => .leaf
theorem get_even (t : PT Ent) (m : Nat) : t.get (2 * m + 2) = (rt t).get m := by
 cases t with
 | leaf => rfl
 | node l v r =>
  simp only [PT.get, rt]
  rw [if_neg (by omega), if_neg (by omega)]
  congr 1; omega
theorem get_odd (t : PT Ent) (m : Nat) : t.get (2 * m + 1) = (lf t).get m := by
 cases t with
 | leaf => rfl
 | node l v r =>
  simp only [PT.get, lf]
  rw [if_neg (by omega), if_pos (by omega)]
  congr 1; omega
def rts : Nat → PT Ent → PT Ent
 | 0, t => t
 | n + 1, t => rts n (rt t)
theorem get_rts : ∀ (n : Nat) (t : PT Ent) (m : Nat), t.get (2 ^ n * m + (2 ^ n * 2 - 2)) = (rts n t).get m
 | 0, t, m => by simp [rts]
 | n + 1, t, m => by
  have h := get_rts n (rt t) m
  have hp : 1 ≤ 2 ^ n := Nat.one_le_two_pow
  rw [rts, ← h, ← get_even t]
  congr 1
  rw [Nat.pow_succ]
  have : 2 ^ n * 2 * m = 2 * (2 ^ n * m) := by rw [Nat.mul_comm (2 ^ n) 2, Nat.mul_assoc]
  omega
theorem get_tid (t : PT Ent) (j : Nat) : t.get (tid j) = (rts 10 t).get j := by
 have e : tid j = 2 ^ 10 * j + (2 ^ 10 * 2 - 2) := by unfold tid; omega
 rw [e]; exact get_rts 10 t j
theorem get_uid (t : PT Ent) (j : Nat) : t.get (uid j) = (rts 9 (lf t)).get j := by
 have e : uid j = 2 * (2 ^ 9 * j + (2 ^ 9 * 2 - 2)) + 1 := by unfold uid; omega
 rw [e, get_odd]; exact get_rts 9 (lf t) j
theorem get_rgt : ∀ (n : Nat) (t : PT Ent) (i : Nat) (e : Ent), (rgt n t).get i = some e → ∃ m, i = 2 ^ n * m + (2 ^ n * 2 - 2) ∧ t.get m = some e
 | 0, t, i, e, h => ⟨i, by simp, h⟩
 | n + 1, t, i, e, h => by
  simp only [rgt, PT.get] at h
  split at h
  ·cases h
  ·split at h
   ·cases h
   ·rename_i h0 h1
    obtain ⟨m, h2, h3⟩ := get_rgt n t _ e h
    refine ⟨m, ?_, h3⟩
    have hp : 1 ≤ 2 ^ n := Nat.one_le_two_pow
    rw [Nat.pow_succ]
    have : 2 ^ n * 2 * m = 2 * (2 ^ n * m) := by rw [Nat.mul_comm (2 ^ n) 2, Nat.mul_assoc]
    omega
theorem seed_get {T U : PT Ent} {i : Nat} {e : Ent} (h : (seed T U).get i = some e) : (∃ j, i = tid j ∧ T.get j = some e) ∨ (∃ j, i = uid j ∧ U.get j = some e) := by
 simp only [seed, PT.get] at h
 split at h
 ·cases h
 ·split at h
  ·obtain ⟨m, h2, h3⟩ := get_rgt 9 U _ e h
   exact .inr ⟨m, by unfold uid; omega, h3⟩
  ·obtain ⟨m, h2, h3⟩ := get_rgt 9 T _ e h
   exact .inl ⟨m, by unfold tid; omega, h3⟩
def cst (T U : PT Ent) (l : List (Nat × Ent)) (n g : Nat) : St := { heap := putL (seed T U) l, next := n, glob := g }
theorem get_cst {T U : PT Ent} {l : List (Nat × Ent)} {n g i : Nat} {e : Ent} (h : (cst T U l n g).heap.get i = some e) :
 (i, e) ∈ l ∨ (∃ j, i = tid j ∧ T.get j = some e) ∨ (∃ j, i = uid j ∧ U.get j = some e) := by
 rcases get_putL l _ i e h with h1 | h1
 ·exact .inr (seed_get h1)
 ·exact .inl h1
theorem get_putL_of : ∀ (l : List (Nat × Ent)) (t : PT Ent) (i : Nat), (∀ y, (i, y) ∉ l) → (putL t l).get i = t.get i
 | [], t, i, h => rfl
 | p :: r, t, i, h => by
  simp only [putL]
  rw [get_putL_of r _ i (fun y hy => h y (by simp [hy])), PT.get_set_ne _ _ (fun hi => h p.2 (by rw [hi]; simp))]
def LowSt (S : St) : Prop := S.glob ≤ S.next ∧ ∀ i e, S.heap.get i = some e → i < S.next ∧ ∀ π, Keeps S.next π → RenE π e e
theorem Keeps.mono {m n : Nat} {π : Nat → Nat} (h : Keeps n π) (hm : m ≤ n) : Keeps m π := fun j hj => h j (by omega)
theorem Moves.back {S : St} {l l' : List (Nat × Ent)} {n : Nat} {a1 b : XAct} (hl : LowSt S) (hn : S.next ≤ n) (hu : ∀ k y, (k, y) ∈ l → k < S.next ∧ ∀ π, Keeps S.next π → RenE π y y)
 (hsame : ∀ i, (putU S.heap l').get i = (putU S.heap l).get i) (hlen : List.length b = List.length a1) (ha : ∀ i v, slot b i = some v → slot a1 i = some v ∧ ∀ π, Keeps S.next π → RenV π v v) :
 Moves S a1 (S.ups l' n) b (S.ups l S.next) := fun α γ w w' tmps hr hN har => by
 have k : Kept S.next (S.ups l S.next) (S.ups l' n) := by
  refine ⟨fun i e hi => ?_, rfl, hn, rfl, hl.1⟩
  have hi' : (putU S.heap l).get i = some e := hi
  refine ⟨by show (putU S.heap l').get i = some e; rw [hsame]; exact hi', ?_⟩
  rcases get_putU l _ i e hi' with h1 | ⟨h1, _⟩
  ·exact hu i e h1
  ·exact hl.2 i e h1
 obtain ⟨β', hn', hv⟩ := hN.forget k (Nat.le_refl _) hr
 refine ⟨β', hn', by rw [hlen]; exact har.1, fun i v hi => ?_⟩
 obtain ⟨h1, h2⟩ := ha i v hi
 obtain ⟨v', h3, h4⟩ := har.2 i v h1
 exact ⟨v', h3, hv v v' h2 h4⟩
structure RunOk (z : Nat) (bs : List Value) : Prop where
 len : bs.length ≤ z
 bytes : bs.all isByte = true
 mark : ∀ pos i, pos + bs.length ≤ z → i + 3 < z → noMark (runDisk z pos bs) i = true
 norec : ∀ pos i, pos + bs.length ≤ z → i < z - 64 → isRec (runDisk z pos bs) (z - 64) i = false
theorem runOk_plain {z n : Nat} {cs : List Value} (hb : cs.all isByte = true) (hn : n ≤ z) (hc : n ≤ cs.length) (hz : z < 20000) : RunOk z (plainRow cs 0 n) := by
 have ho : ∀ i, i < n → 0 + i % 3 < cs.length := fun i hi => by have := Nat.mod_le i 3; omega
 have h256 : ∀ j, (intOf (cs.getD (0 + j) undefX)).toNat < 256 := fun j => by
  by_cases hj : 0 + j < cs.length
  ·obtain ⟨m, hm, e⟩ := isByte_nat (byte_at hb hj)
   rw [e]; simpa [intOf] using hm
  ·rw [List.getD_eq_getElem?_getD, List.getElem?_eq_none (by omega)]; decide
 refine ⟨by rw [plainRow_length]; exact hn, plainRow_bytes hb ho, fun pos i hp hi => ?_, fun pos i hp hi => ?_⟩
 ·rw [plainRow_length] at hp
  rw [runDisk_is hb hp ho]
  exact noMark_run hi
 ·rw [plainRow_length] at hp
  rw [runDisk_is hb hp ho]
  exact noRec_run (bb := fun t => (intOf (cs.getD (0 + t) undefX)).toNat) h256 hz hi
abbrev Pend := List (Nat × List Value)
def arrC (q : Nat) : Nat → Pend → List Value
 | _, [] => []
 | j, p :: r => .int .i64 (p.1 : Int) :: .slice (some ⟨tid (100 + 2 * j + q), 0, none⟩) p.2.length p.2.length :: arrC q (j + 1) r
def applyP (las : List Value) : Pend → List Value
 | [] => las
 | p :: r => applyP (splice las p.1 p.2) r
theorem arrC_length (q : Nat) : ∀ (P : Pend) (j : Nat), (arrC q j P).length = 2 * P.length
 | [], j => rfl
 | p :: r, j => by simp only [arrC, List.length_cons, arrC_length q r]; omega
theorem arrC_at (q : Nat) : ∀ (P : Pend) (j i : Nat) (p : Nat × List Value), P[i]? = some p →
 (arrC q j P)[2 * i]? = some (.int .i64 (p.1 : Int)) ∧ (arrC q j P)[2 * i + 1]? = some (.slice (some ⟨tid (100 + 2 * (j + i) + q), 0, none⟩) p.2.length p.2.length)
 | [], j, i, p, h => by simp at h
 | x :: r, j, 0, p, h => by
  simp at h; subst h
  exact ⟨rfl, rfl⟩
 | x :: r, j, i + 1, p, h => by
  have h' : r[i]? = some p := by simpa using h
  have := arrC_at q r (j + 1) i p h'
  rw [show j + 1 + i = j + (i + 1) by omega] at this
  exact this
theorem arrC_low (q m : Nat) : ∀ (P : Pend) (j : Nat), tid (100 + 2 * (j + P.length) + q) ≤ m → (arrC q j P).all (low1 m) = true
 | [], j, h => rfl
 | x :: r, j, h => by
  have h' : tid (100 + 2 * (j + 1 + r.length) + q) ≤ m := by
   have e : j + (x :: r).length = j + 1 + r.length := by simp only [List.length_cons]; omega
   rw [e] at h; exact h
  have hlt : tid (100 + 2 * j + q) < m := by unfold tid at h' ⊢; omega
  simp only [arrC, List.all_cons, arrC_low q m r (j + 1) h', Bool.and_true]
  simp only [low1, plain1, decide_eq_true hlt, Bool.and_self]
def FitsP (z : Nat) (P : Pend) : Prop := ∀ p, p ∈ P → p.1 + p.2.length ≤ z ∧ p.2.all isByte = true
theorem splice_length {l b : List Value} {o : Nat} (h : o + b.length ≤ l.length) : (splice l o b).length = l.length := by
 unfold splice
 simp only [List.length_append, List.length_take, List.length_drop]; omega
theorem all_take_of {p : Value → Bool} {l : List Value} (h : l.all p = true) (n : Nat) : (l.take n).all p = true := by
 rw [List.all_eq_true] at h ⊢; exact fun x hx => h x (List.mem_of_mem_take hx)
theorem all_drop_of {p : Value → Bool} {l : List Value} (h : l.all p = true) (n : Nat) : (l.drop n).all p = true := by
 rw [List.all_eq_true] at h ⊢; exact fun x hx => h x (List.mem_of_mem_drop hx)
theorem splice_bytes {l b : List Value} {o : Nat} (hl : l.all isByte = true) (hb : b.all isByte = true) : (splice l o b).all isByte = true := by
 unfold splice
 rw [List.all_append, List.all_append, hb, all_take_of hl, all_drop_of hl]; rfl
theorem applyP_length {z : Nat} : ∀ (P : Pend) (las : List Value), FitsP z P → las.length = z → (applyP las P).length = z
 | [], las, _, h => h
 | p :: r, las, hf, h => by
  have := hf p (by simp)
  exact applyP_length r _ (fun x hx => hf x (by simp [hx])) ((splice_length (by omega)).trans h)
theorem applyP_bytes {z : Nat} : ∀ (P : Pend) (las : List Value), FitsP z P → las.all isByte = true → (applyP las P).all isByte = true
 | [], las, _, h => h
 | p :: r, las, hf, h => by
  have := hf p (by simp)
  exact applyP_bytes r _ (fun x hx => hf x (by simp [hx])) (splice_bytes h this.2)
theorem applyP_append (P Q : Pend) (las : List Value) : applyP las (P ++ Q) = applyP (applyP las P) Q := by
 induction P generalizing las with
 | nil => rfl
 | cons p r ih => exact ih _
theorem applyP_take_succ {P : Pend} {i : Nat} {p : Nat × List Value} (h : P[i]? = some p) (las : List Value) : applyP las (P.take (i + 1)) = splice (applyP las (P.take i)) p.1 p.2 := by
 have hi := (List.getElem?_eq_some_iff.1 h).1
 have e : P.take (i + 1) = P.take i ++ [p] := by
  rw [List.take_add_one, h]; rfl
 rw [e, applyP_append]; rfl
theorem FitsP.take {z : Nat} {P : Pend} (h : FitsP z P) (i : Nat) : FitsP z (P.take i) := fun p hp => h p (List.mem_of_mem_take hp)
theorem RenL.set {π : Nat → Nat} {l : List Value} {i : Nat} {v u : Value} (h : RenL π l l) (hu : l[i]? = some u) (hv : RenV π v u) : RenL π (l.set i v) l := by
 refine ⟨by simp, fun j a b ha hb => ?_⟩
 rw [List.getElem?_set] at ha
 split at ha
 ·rename_i hij
  subst hij
  rw [hu] at hb; cases hb
  split at ha
  ·cases ha; exact hv
  ·cases ha
 ·exact h.2 j a b ha hb
def orcZ : Orc := fun _ => none
noncomputable def ycZ : YCall := ygo Tryz.prog okN orcZ kp 100
theorem okOrcZ : OrcSound Tryz.prog orcZ := fun f F h => by cases h
theorem yxZ : YX ycZ (xgoO Tryz.prog okN orcZ kp 100) := ygo_is orcZ kp 100
theorem callZ : CallSound Tryz.prog (xgoO Tryz.prog okN orcZ kp 100) := xgoO_sound mixed okN_ok okN_good okOrcZ kp 100
def dRow (z k : Nat) (wr : Value) (fu : Int) (off : Bool) : Ent := .row [.slice (some ⟨100005, 0, none⟩) z z, .slice (some ⟨100006, 0, none⟩) z z, wr, .int .i64 fu, .bool off] 0 false
def rRow (z : Nat) (wr : Value) (on : Bool) (fu : Int) : Ent := .row [.slice (some ⟨100009, 0, none⟩) z z, wr, .bool on, .int .i64 fu] 0 false
def wrV (p k : Nat) : Value := .slice (some ⟨p, 0, none⟩) k k
def slZ (n : Nat) (l : List (Nat × Value)) : XAct := l.foldl (fun a p => a.set p.1 (some p.2)) (List.replicate n none)
theorem dlA (z k lk kc : Nat) (cut fu : Int) (df : Bool) (ka : Option Addr) : ycode Tryz.prog okN ycZ (kp 20) 100 (sub (codeOf Tryz.prog 20) [0]) (startX Tryz.f20 [.pointer (ad 100004), .slice ka lk kc, .int .i64 cut]) (ofL [(100004, dRow z k (wrV 100007 k) fu df)] 200000) [] = (some (true, ((XE.normal, (slZ 94 [(0, Value.pointer (ad 100004)), (1, Value.slice ka lk kc), (2, Value.int .i64 cut)]), ⟨(ch 16 34469 (lr [Value.slice (ad 100005) z z, Value.slice (ad 100006) z z, Value.slice (ad 100007) k k, Value.int .i64 fu, Value.bool df] 0 false)), 200000, 0⟩), []))) := by kernel_rfl
theorem dlB (z k lk kc : Nat) (cut fu : Int) (df : Bool) (ka : Option Addr) : ycode Tryz.prog okN ycZ (kp 20) 100 (sub (codeOf Tryz.prog 20) [1,0]) (slZ 94 [(0, .pointer (ad 100004)), (1, .slice ka lk kc), (2, .int .i64 cut)]) (ofL [(100004, dRow z k (wrV 100007 k) fu df)] 200000) (bits 9 127) = (some (tn 1 (!!decide (0 < (z : Int))), ((XE.normal, (slZ 94 [(0, Value.pointer (ad 100004)), (1, Value.slice ka lk kc), (2, Value.int .i64 cut), (14, Value.bool !decide (0 < (z : Int)))]), ⟨(ch 16 34469 (lr [Value.slice (ad 100005) z z, Value.slice (ad 100006) z z, Value.slice (ad 100007) k k, Value.int .i64 fu, Value.bool df] 0 false)), 200000, 0⟩), []))) := by kernel_rfl
theorem dlC (z k lk kc : Nat) (cut fu : Int) (df : Bool) (ka : Option Addr) : ycode Tryz.prog okN ycZ (kp 20) 100 (sub (codeOf Tryz.prog 20) [1,1,0]) (slZ 94 [(0, .pointer (ad 100004)), (1, .slice ka lk kc), (2, .int .i64 cut)]) (ofL [(100004, dRow z k (wrV 100007 k) fu df)] 200000) [] = (some (true, ((XE.normal, (slZ 94 [(0, Value.pointer (ad 100004)), (1, Value.slice ka lk kc), (2, Value.int .i64 cut), (7, Value.slice none 0 0)]), ⟨(ch 16 34469 (lr [Value.slice (ad 100005) z z, Value.slice (ad 100006) z z, Value.slice (ad 100007) k k, Value.int .i64 fu, Value.bool df] 0 false)), 200000, 0⟩), []))) := by kernel_rfl
theorem dlD (z k lk kc : Nat) (cut fu : Int) (df : Bool) (ka : Option Addr) : ycode Tryz.prog okN ycZ (kp 20) 100 (sub (codeOf Tryz.prog 20) [1,1,1,0,0]) (slZ 94 [(0, .pointer (ad 100004)), (1, .slice ka lk kc), (2, .int .i64 cut), (7, .slice none 0 0)]) (ofL [(100004, dRow z k (wrV 100007 k) fu df)] 200000) [] = (some (true, ((XE.normal, (slZ 94 [(0, Value.pointer (ad 100004)), (1, Value.slice ka lk kc), (2, Value.int .i64 cut), (7, Value.slice none 0 0), (18, Value.slice (ad 100007) k k), (19, Value.int .i64 k), (20, Value.int .i64 0)]), ⟨(ch 16 34469 (lr [Value.slice (ad 100005) z z, Value.slice (ad 100006) z z, Value.slice (ad 100007) k k, Value.int .i64 fu, Value.bool df] 0 false)), 200000, 0⟩), []))) := by kernel_rfl
theorem dl1c (k i a l lk kc : Nat) (cut : Int) (ka : Option Addr) (kept : Value) (cs bs : List Value) : hcode Tryz.prog okN ycZ (kp 20) [(24, .agg ⟨[.int .i64 (a : Int), .slice (ad 199997) l l]⟩)] 100 (sub (codeOf Tryz.prog 20) [1,1,1,0,1,0,0]) (slZ 94 [(0, .pointer (ad 100004)), (1, .slice ka lk kc), (2, .int .i64 cut), (7, kept), (18, .slice (ad 100007) k k), (19, .int .i64 k), (20, .int .i64 (i : Int))]) (ofL [(100007, .row cs 2 false), (199997, .row bs 1 false)] 200001) (bits 8 1) = (let x0 := [Value.int .i64 a, Value.slice (ad 199997) l l]; let x1 := !decide ((i : Int) < (lk : Int)); let x2 := decide ((i : Int) < (k : Int)); some (tn 1 x2 && tn 2 (tn 1 (tn 2 (decide (0 ≤ (i : Int)) && tn 1 x2) && (tn 4 (decide (0 + i * 2 + 2 ≤ List.length cs)) && (tn 1 (same (Value.agg (List.toArray (List.take 2 (List.drop (0 + i * 2) cs)))) (Value.agg { toList := x0 : Array Value })) && tn 3 (decide (0 + List.length x0 ≤ 2) && tn 1 (List.all x0 one))))) && tn 2 (rp 4 x1 (tn 3 x1))), ((XE.normal, (slZ 94 [(0, Value.pointer (ad 100004)), (1, Value.slice ka lk kc), (2, Value.int .i64 cut), (7, kept), (18, Value.slice (ad 100007) k k), (19, Value.int .i64 k), (20, Value.int .i64 (IntKind.wrap .i64 ((i : Int) + 1)))]), ⟨(le (nd (ch 14 8618 (lr cs 2 false)) (nd (ch 14 8616 (lr x0 0 false)) (ch 14 8615 (lr bs 1 false))))), 200002, 0⟩), []))) := by kernel_rfl
theorem dl1b (k i a l lk kc : Nat) (cut : Int) (kept : Value) (ks cs bs : List Value) : hcode Tryz.prog okN ycZ (kp 20) [(24, .agg ⟨[.int .i64 (a : Int), .slice (ad 199997) l l]⟩)] 100 (sub (codeOf Tryz.prog 20) [1,1,1,0,1,0,0]) (slZ 94 [(0, .pointer (ad 100004)), (1, .slice (ad 199990) lk kc), (2, .int .i64 cut), (7, kept), (18, .slice (ad 100007) k k), (19, .int .i64 k), (20, .int .i64 (i : Int))]) (ofL [(199990, .row ks 1 true), (100007, .row cs 2 false), (199997, .row bs 1 false)] 200001) (bits 8 63) = (let x0 := [Value.int .i64 a, Value.slice (ad 199997) l l]; let x1 := decide ((i : Int) < (lk : Int)); let x2 := List.getD ks (0 + i * 1) undefX; let x3 := decide ((i : Int) < (k : Int)); some (tn 1 x3 && tn 2 (tn 1 (tn 2 (decide (0 ≤ (i : Int)) && tn 1 x3) && (tn 4 (decide (0 + i * 2 + 2 ≤ List.length cs)) && (tn 1 (same (Value.agg (List.toArray (List.take 2 (List.drop (0 + i * 2) cs)))) (Value.agg { toList := x0 : Array Value })) && tn 3 (decide (0 + List.length x0 ≤ 2) && tn 1 (List.all x0 one))))) && (tn 1 (rp 3 x1 (tn 2 (decide (0 ≤ (i : Int)) && tn 1 x1) && (tn 1 x1 && (tn 2 (tn 1 (decide (0 + i * 1 < List.length ks)) && tn 1 (isBool x2)) && tn 3 x1)))) && tn 1 (!boolOf x2))), ((XE.normal, (slZ 94 [(0, Value.pointer (ad 100004)), (1, Value.slice (ad 199990) lk kc), (2, Value.int .i64 cut), (7, kept), (18, Value.slice (ad 100007) k k), (19, Value.int .i64 k), (20, Value.int .i64 (IntKind.wrap .i64 ((i : Int) + 1)))]), ⟨(nd (nd (ch 14 8618 (lr cs 2 false)) (nd (ch 14 8616 (lr x0 0 false)) (ch 14 8615 (lr bs 1 false)))) (ch 16 34459 (lr ks 1 true))), 200002, 0⟩), []))) := by kernel_rfl
theorem dl1n (k i a l lk kc r : Nat) (cut : Int) (ks cs bs kq : List Value) : hcode Tryz.prog okN ycZ (kp 20) [(24, .agg ⟨[.int .i64 (a : Int), .slice (ad 199997) l l]⟩)] 100 (sub (codeOf Tryz.prog 20) [1,1,1,0,1,0,0]) (slZ 94 [(0, .pointer (ad 100004)), (1, .slice (ad 199990) lk kc), (2, .int .i64 cut), (7, .slice none 0 0), (18, .slice (ad 100007) k k), (19, .int .i64 k), (20, .int .i64 (i : Int))]) (ofL [(199990, .row ks 1 true), (100007, .row cs 2 false), (199997, .row bs 1 false)] 200001) (bits 10 191) = (let x0 := [Value.int .i64 a, Value.slice (ad 199997) l l]; let x1 := decide ((i : Int) < (lk : Int)); let x2 := ch 14 8616 (lr x0 2 false); let x3 := List.getD ks (0 + i * 1) undefX; let x4 := decide ((i : Int) < (k : Int)); some (tn 1 x4 && tn 2 (tn 1 (tn 2 (decide (0 ≤ (i : Int)) && tn 1 x4) && (tn 4 (decide (0 + i * 2 + 2 ≤ List.length cs)) && (tn 1 (same (Value.agg (List.toArray (List.take 2 (List.drop (0 + i * 2) cs)))) (Value.agg { toList := x0 : Array Value })) && tn 3 (decide (0 + List.length x0 ≤ 2) && tn 1 (List.all x0 one))))) && (tn 1 (rp 3 x1 (tn 2 (decide (0 ≤ (i : Int)) && tn 1 x1) && (tn 1 x1 && (tn 2 (tn 1 (decide (0 + i * 1 < List.length ks)) && tn 1 (isBool x3)) && tn 3 x1)))) && tn 1 (boolOf x3))), ((XE.normal, (slZ 94 [(0, Value.pointer (ad 100004)), (1, Value.slice (ad 199990) lk kc), (2, Value.int .i64 cut), (7, Value.slice (ad 200003) 1 1), (18, Value.slice (ad 100007) k k), (19, Value.int .i64 k), (20, Value.int .i64 (IntKind.wrap .i64 ((i : Int) + 1)))]), ⟨(nd (nd (nd (ch 13 4309 (lr cs 2 false)) x2) (nd (ch 14 8616 (lr x0 0 false)) (ch 14 8615 (lr bs 1 false)))) (ri (nd x2 (ch 14 8614 (lr ks 1 true))))), 200004, 0⟩), []))) := by kernel_rfl
theorem dl1m (k i a l lk kc r : Nat) (cut : Int) (ks cs bs kq : List Value) : hcode Tryz.prog okN ycZ (kp 20) [(24, .agg ⟨[.int .i64 (a : Int), .slice (ad 199997) l l]⟩)] 100 (sub (codeOf Tryz.prog 20) [1,1,1,0,1,0,0]) (slZ 94 [(0, .pointer (ad 100004)), (1, .slice (ad 199990) lk kc), (2, .int .i64 cut), (7, .slice (ad 200000) r r), (18, .slice (ad 100007) k k), (19, .int .i64 k), (20, .int .i64 (i : Int))]) (ofL [(199990, .row ks 1 true), (100007, .row cs 2 false), (199997, .row bs 1 false), (200000, .row kq 2 false)] 200001) (bits 10 191) = (let x0 := [Value.int .i64 a, Value.slice (ad 199997) l l]; let x1 := List.take (r * 2) (List.drop 0 kq) ++ List.take 2 (List.drop 0 (splice (zerosL [Value.int .i64 0, Value.slice none 0 0] 1) 0 (List.take 2 (List.drop 0 (splice [Value.int .i64 0, Value.slice none 0 0] 0 x0))))); let x2 := decide ((i : Int) < (lk : Int)); let x3 := List.getD ks (0 + i * 1) undefX; let x4 := decide ((i : Int) < (k : Int)); some (tn 1 x4 && tn 2 (tn 1 (tn 2 (decide (0 ≤ (i : Int)) && tn 1 x4) && (tn 4 (decide (0 + i * 2 + 2 ≤ List.length cs)) && (tn 1 (same (Value.agg (List.toArray (List.take 2 (List.drop (0 + i * 2) cs)))) (Value.agg { toList := x0 : Array Value })) && tn 3 (decide (0 + List.length x0 ≤ 2) && tn 1 (List.all x0 one))))) && (tn 1 (rp 3 x2 (tn 2 (decide (0 ≤ (i : Int)) && tn 1 x2) && (tn 1 x2 && (tn 2 (tn 1 (decide (0 + i * 1 < List.length ks)) && tn 1 (isBool x3)) && tn 3 x2)))) && (boolOf x3 && tn 4 (decide (r ≤ r) && (!decide (r + 1 ≤ r) && (decide ((r + 1) * 32 ≤ 140737488355328) && (decide (r + 1 ≤ 9223372036854775807) && (decide (0 + r * 2 ≤ List.length kq) && tn 2 (List.all x1 one))))))))), ((XE.normal, (slZ 94 [(0, Value.pointer (ad 100004)), (1, Value.slice (ad 199990) lk kc), (2, Value.int .i64 cut), (7, Value.slice (ad 200003) (r + 1) (r + 1)), (18, Value.slice (ad 100007) k k), (19, Value.int .i64 k), (20, Value.int .i64 (IntKind.wrap .i64 ((i : Int) + 1)))]), ⟨(nd (nd (nd (ch 13 4309 (lr cs 2 false)) (ch 14 8616 (lr x1 2 false))) (nd (ch 14 8616 (lr x0 0 false)) (ch 14 8615 (lr bs 1 false)))) (nd (ch 15 17232 (l0)) (nd (ch 14 8616 (lr x0 2 false)) (ch 14 8614 (lr ks 1 true))))), 200004, 0⟩), []))) := by kernel_rfl
theorem dl1x (k i lk kc : Nat) (cut : Int) (ka : Option Addr) (kept : Value) : ycode Tryz.prog okN ycZ (kp 20) 100 (sub (codeOf Tryz.prog 20) [1,1,1,0,1,0,0]) (slZ 94 [(0, .pointer (ad 100004)), (1, .slice ka lk kc), (2, .int .i64 cut), (7, kept), (18, .slice (ad 100007) k k), (19, .int .i64 k), (20, .int .i64 (i : Int))]) (ofL [] 200001) [false] = (let x0 := decide ((i : Int) < (k : Int)); some (tn 2 (!x0), ((XE.exit 0, (slZ 94 [(0, Value.pointer (ad 100004)), (1, Value.slice ka lk kc), (2, Value.int .i64 cut), (7, kept), (18, Value.slice (ad 100007) k k), (19, Value.int .i64 k), (20, Value.int .i64 i), (21, Value.bool (x0))]), { heap := PT.leaf, next := 200001, glob := 0 : St }), []))) := by kernel_rfl
theorem dl2n (k lk kc r : Nat) (cut : Int) (ka : Option Addr) : ycode Tryz.prog okN ycZ (kp 20) 100 (sub (codeOf Tryz.prog 20) [1,1,1,1,0,0]) (slZ 94 [(0, .pointer (ad 100004)), (1, .slice ka lk kc), (2, .int .i64 cut), (7, .slice none 0 0), (18, .slice (ad 100007) k k), (19, .int .i64 k), (20, .int .i64 (k : Int)), (21, .bool false)]) (ofL [] 200001) [] = (some (true, ((XE.normal, (slZ 94 [(0, Value.pointer (ad 100004)), (2, Value.int .i64 cut), (7, Value.slice none 0 0), (40, Value.slice none 0 0), (41, Value.int .i64 0), (42, Value.int .i64 0)]), { heap := PT.leaf, next := 200001, glob := 0 : St }), []))) := by kernel_rfl
theorem dl2m (k lk kc r : Nat) (cut : Int) (ka : Option Addr) : ycode Tryz.prog okN ycZ (kp 20) 100 (sub (codeOf Tryz.prog 20) [1,1,1,1,0,0]) (slZ 94 [(0, .pointer (ad 100004)), (1, .slice ka lk kc), (2, .int .i64 cut), (7, .slice (ad 200000) r r), (18, .slice (ad 100007) k k), (19, .int .i64 k), (20, .int .i64 (k : Int)), (21, .bool false)]) (ofL [] 200001) [] = (some (true, ((XE.normal, (slZ 94 [(0, Value.pointer (ad 100004)), (2, Value.int .i64 cut), (7, Value.slice (ad 200000) r r), (40, Value.slice (ad 200000) r r), (41, Value.int .i64 r), (42, Value.int .i64 0)]), { heap := PT.leaf, next := 200001, glob := 0 : St }), []))) := by kernel_rfl
theorem dl2xn (k lk kc : Nat) (cut : Int) (ka : Option Addr) : ycode Tryz.prog okN ycZ (kp 20) 100 (sub (codeOf Tryz.prog 20) [1,1,1,1,0,1,0,0]) (slZ 94 [(0, .pointer (ad 100004)), (2, .int .i64 cut), (7, .slice none 0 0), (40, .slice none 0 0), (41, .int .i64 0), (42, .int .i64 0)]) (ofL [] 200001) [false] = (some (true, ((XE.exit 2, (slZ 94 [(0, Value.pointer (ad 100004)), (2, Value.int .i64 cut), (7, Value.slice none 0 0), (40, Value.slice none 0 0), (41, Value.int .i64 0), (42, Value.int .i64 0), (43, Value.bool false)]), { heap := PT.leaf, next := 200001, glob := 0 : St }), []))) := by kernel_rfl
theorem dl2x (k i lk kc r : Nat) (cut : Int) (ka : Option Addr) : ycode Tryz.prog okN ycZ (kp 20) 100 (sub (codeOf Tryz.prog 20) [1,1,1,1,0,1,0,0]) (slZ 94 [(0, .pointer (ad 100004)), (2, .int .i64 cut), (7, .slice (ad 200000) r r), (40, .slice (ad 200000) r r), (41, .int .i64 r), (42, .int .i64 (i : Int))]) (ofL [] 200001) [false] = (let x0 := decide ((i : Int) < (r : Int)); some (tn 2 (!x0), ((XE.exit 2, (slZ 94 [(0, Value.pointer (ad 100004)), (2, Value.int .i64 cut), (7, Value.slice (ad 200000) r r), (40, Value.slice (ad 200000) r r), (41, Value.int .i64 r), (42, Value.int .i64 i), (43, Value.bool (x0))]), { heap := PT.leaf, next := 200001, glob := 0 : St }), []))) := by kernel_rfl
theorem dl2a (z k i a l lk kc r : Nat) (cut fu : Int) (df : Bool) (ka : Option Addr) (las cs bs : List Value) : hcode Tryz.prog okN ycZ (kp 20) [(46, .agg ⟨[.int .i64 (a : Int), .slice (ad 199997) l l]⟩)] 100 (sub (codeOf Tryz.prog 20) [1,1,1,1,0,1,0,0]) (slZ 94 [(0, .pointer (ad 100004)), (2, .int .i64 cut), (7, .slice (ad 200000) r r), (40, .slice (ad 200000) r r), (41, .int .i64 r), (42, .int .i64 (i : Int))]) (ofL [(100004, dRow z k (wrV 100007 k) fu df), (100006, .row las 1 false), (200000, .row cs 2 false), (199997, .row bs 1 false)] 200001) (bits 8 129) = (let x0 := [Value.int .i64 a, Value.slice (ad 199997) l l]; let x1 := List.getD [Value.slice (ad 100005) z z, Value.slice (ad 100006) z z, wrV 100007 k, Value.int .i64 fu, Value.bool df] 1 undefX; let x2 := !decide ((i : Int) = IntKind.wrap .i64 ((r : Int) - 1)); let x3 := List.getD (splice [Value.int .i64 0, Value.slice none 0 0] 0 x0) 1 undefX; let x4 := List.take (l * 1) (List.drop 0 bs); let x5 := Value.slice (some ⟨100006, 0 + a * 1, none⟩) (z - a) (z - a); let x6 := decide ((i : Int) < (r : Int)); let x7 := decide ((a : Int) ≤ (z : Int)); some (tn 1 x6 && tn 2 (tn 1 (tn 2 (decide (0 ≤ (i : Int)) && tn 1 x6) && (tn 4 (decide (0 + i * 2 + 2 ≤ List.length cs)) && (tn 1 (same (Value.agg (List.toArray (List.take 2 (List.drop (0 + i * 2) cs)))) (Value.agg { toList := x0 : Array Value })) && tn 3 (decide (0 + List.length x0 ≤ 2) && tn 1 (List.all x0 one))))) && (tn 2 (rp 2 x2 (tn 3 x2)) && tn 1 (tn 5 x7 && tn 4 (decide (l ≤ z - a) && (!decide (l = 0) && tn 1 (decide (0 + l * 1 ≤ List.length bs)) && tn 1 (decide (0 + a * 1 + List.length x4 ≤ List.length las) && tn 1 (List.all x4 one)))) && tn 1 (tn 1 (same x1 x1) && (tn 1 (same (Value.int .i64 a) (Value.int .i64 a)) && (tn 4 x7 && tn 1 (same x5 x5) && tn 2 (same x3 x3))))))), ((XE.normal, (slZ 94 [(0, Value.pointer (ad 100004)), (2, Value.int .i64 cut), (7, Value.slice (ad 200000) r r), (40, Value.slice (ad 200000) r r), (41, Value.int .i64 r), (42, Value.int .i64 (IntKind.wrap .i64 ((i : Int) + 1)))]), ⟨(nd (ri (nd (ch 14 8616 (lr x0 0 false)) (ch 14 8615 (lr bs 1 false)))) (nd (nd (ch 14 8616 (lr cs 2 false)) (ch 13 4308 (lr [Value.slice (ad 100005) z z, Value.slice (ad 100006) z z, Value.slice (ad 100007) k k, Value.int .i64 fu, Value.bool df] 0 false))) (ch 14 8617 (lr (splice las (0 + a * 1) x4) 1 false)))), 200012, 0⟩), []))) := by kernel_rfl
theorem dl2a0 (z k i a l lk kc r : Nat) (cut fu : Int) (df : Bool) (ka : Option Addr) (las cs bs : List Value) : hcode Tryz.prog okN ycZ (kp 20) [(46, .agg ⟨[.int .i64 (a : Int), .slice (ad 199997) l l]⟩)] 100 (sub (codeOf Tryz.prog 20) [1,1,1,1,0,1,0,0]) (slZ 94 [(0, .pointer (ad 100004)), (2, .int .i64 cut), (7, .slice (ad 200000) r r), (40, .slice (ad 200000) r r), (41, .int .i64 r), (42, .int .i64 (i : Int))]) (ofL [(100004, dRow z k (wrV 100007 k) fu df), (100006, .row las 1 false), (200000, .row cs 2 false), (199997, .row bs 1 false)] 200001) (bits 8 193) = (let x0 := [Value.int .i64 a, Value.slice (ad 199997) l l]; let x1 := List.getD [Value.slice (ad 100005) z z, Value.slice (ad 100006) z z, wrV 100007 k, Value.int .i64 fu, Value.bool df] 1 undefX; let x2 := !decide ((i : Int) = IntKind.wrap .i64 ((r : Int) - 1)); let x3 := List.getD (splice [Value.int .i64 0, Value.slice none 0 0] 0 x0) 1 undefX; let x4 := Value.slice (some ⟨100006, 0 + a * 1, none⟩) (z - a) (z - a); let x5 := decide ((i : Int) < (r : Int)); let x6 := decide ((a : Int) ≤ (z : Int)); some (tn 1 x5 && tn 2 (tn 1 (tn 2 (decide (0 ≤ (i : Int)) && tn 1 x5) && (tn 4 (decide (0 + i * 2 + 2 ≤ List.length cs)) && (tn 1 (same (Value.agg (List.toArray (List.take 2 (List.drop (0 + i * 2) cs)))) (Value.agg { toList := x0 : Array Value })) && tn 3 (decide (0 + List.length x0 ≤ 2) && tn 1 (List.all x0 one))))) && (tn 2 (rp 2 x2 (tn 3 x2)) && tn 1 (tn 5 x6 && tn 4 (decide (l ≤ z - a) && tn 2 (decide (l = 0))) && tn 1 (tn 1 (same x1 x1) && (tn 1 (same (Value.int .i64 a) (Value.int .i64 a)) && (tn 4 x6 && tn 1 (same x4 x4) && tn 2 (same x3 x3))))))), ((XE.normal, (slZ 94 [(0, Value.pointer (ad 100004)), (2, Value.int .i64 cut), (7, Value.slice (ad 200000) r r), (40, Value.slice (ad 200000) r r), (41, Value.int .i64 r), (42, Value.int .i64 (IntKind.wrap .i64 ((i : Int) + 1)))]), ⟨(nd (ri (nd (ch 14 8616 (lr x0 0 false)) (ch 14 8615 (lr bs 1 false)))) (nd (nd (ch 14 8616 (lr cs 2 false)) (ch 13 4308 (lr [Value.slice (ad 100005) z z, Value.slice (ad 100006) z z, Value.slice (ad 100007) k k, Value.int .i64 fu, Value.bool df] 0 false))) (ch 14 8617 (lr las 1 false)))), 200012, 0⟩), []))) := by kernel_rfl
theorem dl2b (z k i a l lk kc r : Nat) (cut fu : Int) (df : Bool) (ka : Option Addr) (las cs bs : List Value) : hcode Tryz.prog okN ycZ (kp 20) [(46, .agg ⟨[.int .i64 (a : Int), .slice (ad 199997) l l]⟩)] 100 (sub (codeOf Tryz.prog 20) [1,1,1,1,0,1,0,0]) (slZ 94 [(0, .pointer (ad 100004)), (2, .int .i64 cut), (7, .slice (ad 200000) r r), (40, .slice (ad 200000) r r), (41, .int .i64 r), (42, .int .i64 (i : Int))]) (ofL [(100004, dRow z k (wrV 100007 k) fu df), (100006, .row las 1 false), (200000, .row cs 2 false), (199997, .row bs 1 false)] 200001) (bits 8 143) = (let x0 := [Value.int .i64 a, Value.slice (ad 199997) l l]; let x1 := List.getD [Value.slice (ad 100005) z z, Value.slice (ad 100006) z z, wrV 100007 k, Value.int .i64 fu, Value.bool df] 1 undefX; let x2 := decide ((i : Int) = IntKind.wrap .i64 ((r : Int) - 1)); let x3 := List.getD (splice [Value.int .i64 0, Value.slice none 0 0] 0 x0) 1 undefX; let x4 := List.take (l * 1) (List.drop 0 bs); let x5 := Value.slice (some ⟨100006, 0 + a * 1, none⟩) (z - a) (z - a); let x6 := decide ((i : Int) < (r : Int)); let x7 := decide ((a : Int) ≤ (z : Int)); some (tn 1 x6 && tn 2 (tn 1 (tn 2 (decide (0 ≤ (i : Int)) && tn 1 x6) && (tn 4 (decide (0 + i * 2 + 2 ≤ List.length cs)) && (tn 1 (same (Value.agg (List.toArray (List.take 2 (List.drop (0 + i * 2) cs)))) (Value.agg { toList := x0 : Array Value })) && tn 3 (decide (0 + List.length x0 ≤ 2) && tn 1 (List.all x0 one))))) && (tn 1 (rp 2 x2 (tn 3 x2)) && tn 1 (!decide (0 ≤ cut)) && tn 1 (tn 5 x7 && tn 4 (decide (l ≤ z - a) && (!decide (l = 0) && tn 1 (decide (0 + l * 1 ≤ List.length bs)) && tn 1 (decide (0 + a * 1 + List.length x4 ≤ List.length las) && tn 1 (List.all x4 one)))) && tn 1 (tn 1 (same x1 x1) && (tn 1 (same (Value.int .i64 a) (Value.int .i64 a)) && (tn 4 x7 && tn 1 (same x5 x5) && tn 2 (same x3 x3))))))), ((XE.normal, (slZ 94 [(0, Value.pointer (ad 100004)), (2, Value.int .i64 cut), (7, Value.slice (ad 200000) r r), (40, Value.slice (ad 200000) r r), (41, Value.int .i64 r), (42, Value.int .i64 (IntKind.wrap .i64 ((i : Int) + 1)))]), ⟨(nd (ri (nd (ch 14 8616 (lr x0 0 false)) (ch 14 8615 (lr bs 1 false)))) (nd (nd (ch 14 8616 (lr cs 2 false)) (ch 13 4308 (lr [Value.slice (ad 100005) z z, Value.slice (ad 100006) z z, Value.slice (ad 100007) k k, Value.int .i64 fu, Value.bool df] 0 false))) (ch 14 8617 (lr (splice las (0 + a * 1) x4) 1 false)))), 200012, 0⟩), []))) := by kernel_rfl
theorem dl2b0 (z k i a l lk kc r : Nat) (cut fu : Int) (df : Bool) (ka : Option Addr) (las cs bs : List Value) : hcode Tryz.prog okN ycZ (kp 20) [(46, .agg ⟨[.int .i64 (a : Int), .slice (ad 199997) l l]⟩)] 100 (sub (codeOf Tryz.prog 20) [1,1,1,1,0,1,0,0]) (slZ 94 [(0, .pointer (ad 100004)), (2, .int .i64 cut), (7, .slice (ad 200000) r r), (40, .slice (ad 200000) r r), (41, .int .i64 r), (42, .int .i64 (i : Int))]) (ofL [(100004, dRow z k (wrV 100007 k) fu df), (100006, .row las 1 false), (200000, .row cs 2 false), (199997, .row bs 1 false)] 200001) (bits 8 207) = (let x0 := [Value.int .i64 a, Value.slice (ad 199997) l l]; let x1 := List.getD [Value.slice (ad 100005) z z, Value.slice (ad 100006) z z, wrV 100007 k, Value.int .i64 fu, Value.bool df] 1 undefX; let x2 := decide ((i : Int) = IntKind.wrap .i64 ((r : Int) - 1)); let x3 := List.getD (splice [Value.int .i64 0, Value.slice none 0 0] 0 x0) 1 undefX; let x4 := Value.slice (some ⟨100006, 0 + a * 1, none⟩) (z - a) (z - a); let x5 := decide ((i : Int) < (r : Int)); let x6 := decide ((a : Int) ≤ (z : Int)); some (tn 1 x5 && tn 2 (tn 1 (tn 2 (decide (0 ≤ (i : Int)) && tn 1 x5) && (tn 4 (decide (0 + i * 2 + 2 ≤ List.length cs)) && (tn 1 (same (Value.agg (List.toArray (List.take 2 (List.drop (0 + i * 2) cs)))) (Value.agg { toList := x0 : Array Value })) && tn 3 (decide (0 + List.length x0 ≤ 2) && tn 1 (List.all x0 one))))) && (tn 1 (rp 2 x2 (tn 3 x2)) && tn 1 (!decide (0 ≤ cut)) && tn 1 (tn 5 x6 && tn 4 (decide (l ≤ z - a) && tn 2 (decide (l = 0))) && tn 1 (tn 1 (same x1 x1) && (tn 1 (same (Value.int .i64 a) (Value.int .i64 a)) && (tn 4 x6 && tn 1 (same x4 x4) && tn 2 (same x3 x3))))))), ((XE.normal, (slZ 94 [(0, Value.pointer (ad 100004)), (2, Value.int .i64 cut), (7, Value.slice (ad 200000) r r), (40, Value.slice (ad 200000) r r), (41, Value.int .i64 r), (42, Value.int .i64 (IntKind.wrap .i64 ((i : Int) + 1)))]), ⟨(nd (ri (nd (ch 14 8616 (lr x0 0 false)) (ch 14 8615 (lr bs 1 false)))) (nd (nd (ch 14 8616 (lr cs 2 false)) (ch 13 4308 (lr [Value.slice (ad 100005) z z, Value.slice (ad 100006) z z, Value.slice (ad 100007) k k, Value.int .i64 fu, Value.bool df] 0 false))) (ch 14 8617 (lr las 1 false)))), 200012, 0⟩), []))) := by kernel_rfl
theorem dl2c (z k i a l lk kc r : Nat) (cut fu : Int) (df : Bool) (ka : Option Addr) (las cs bs : List Value) : hcode Tryz.prog okN ycZ (kp 20) [(46, .agg ⟨[.int .i64 (a : Int), .slice (ad 199997) l l]⟩)] 100 (sub (codeOf Tryz.prog 20) [1,1,1,1,0,1,0,0]) (slZ 94 [(0, .pointer (ad 100004)), (2, .int .i64 cut), (7, .slice (ad 200000) r r), (40, .slice (ad 200000) r r), (41, .int .i64 r), (42, .int .i64 (i : Int))]) (ofL [(100004, dRow z k (wrV 100007 k) fu df), (100006, .row las 1 false), (200000, .row cs 2 false), (199997, .row bs 1 false)] 200001) (bits 8 175) = (let x0 := Int.toNat (if (l : Int) < cut then (l : Int) else cut) - 0; let x1 := [Value.int .i64 a, Value.slice (ad 199997) l l]; let x2 := List.getD [Value.slice (ad 100005) z z, Value.slice (ad 100006) z z, wrV 100007 k, Value.int .i64 fu, Value.bool df] 1 undefX; let x3 := List.getD (List.set (splice [Value.int .i64 0, Value.slice none 0 0] 0 x1) 1 (Value.slice (ad 199997) x0 (l - 0))) 1 undefX; let x4 := decide ((i : Int) = IntKind.wrap .i64 ((r : Int) - 1)); let x5 := List.take (x0 * 1) (List.drop 0 bs); let x6 := Value.slice (some ⟨100006, 0 + a * 1, none⟩) (z - a) (z - a); let x7 := decide ((i : Int) < (r : Int)); let x8 := decide ((a : Int) ≤ (z : Int)); some (tn 1 x7 && tn 2 (tn 1 (tn 2 (decide (0 ≤ (i : Int)) && tn 1 x7) && (tn 4 (decide (0 + i * 2 + 2 ≤ List.length cs)) && (tn 1 (same (Value.agg (List.toArray (List.take 2 (List.drop (0 + i * 2) cs)))) (Value.agg { toList := x1 : Array Value })) && tn 3 (decide (0 + List.length x1 ≤ 2) && tn 1 (List.all x1 one))))) && (tn 1 (rp 2 x4 (tn 3 x4)) && (decide (0 ≤ cut) && tn 6 (decide (0 ≤ if (l : Int) < cut then (l : Int) else cut) && tn 1 (decide ((if (l : Int) < cut then (l : Int) else cut) ≤ (l : Int))))) && tn 1 (tn 5 x8 && tn 4 (decide (Int.toNat (if (l : Int) < cut then (l : Int) else cut) - 0 ≤ z - a) && (!decide (Int.toNat (if (l : Int) < cut then (l : Int) else cut) - 0 = 0) && tn 1 (decide (0 + x0 * 1 ≤ List.length bs)) && tn 1 (decide (0 + a * 1 + List.length x5 ≤ List.length las) && tn 1 (List.all x5 one)))) && tn 1 (tn 1 (same x2 x2) && (tn 1 (same (Value.int .i64 a) (Value.int .i64 a)) && (tn 4 x8 && tn 1 (same x6 x6) && tn 2 (same x3 x3))))))), ((XE.normal, (slZ 94 [(0, Value.pointer (ad 100004)), (2, Value.int .i64 cut), (7, Value.slice (ad 200000) r r), (40, Value.slice (ad 200000) r r), (41, Value.int .i64 r), (42, Value.int .i64 (IntKind.wrap .i64 ((i : Int) + 1)))]), ⟨(nd (ri (nd (ch 14 8616 (lr [Value.int .i64 a, Value.slice (ad 199997) x0 (l - 0)] 0 false)) (ch 14 8615 (lr bs 1 false)))) (nd (nd (ch 14 8616 (lr cs 2 false)) (ch 13 4308 (lr [Value.slice (ad 100005) z z, Value.slice (ad 100006) z z, Value.slice (ad 100007) k k, Value.int .i64 fu, Value.bool df] 0 false))) (ch 14 8617 (lr (splice las (0 + a * 1) x5) 1 false)))), 200012, 0⟩), []))) := by kernel_rfl
theorem dl2c0 (z k i a l lk kc r : Nat) (cut fu : Int) (df : Bool) (ka : Option Addr) (las cs bs : List Value) : hcode Tryz.prog okN ycZ (kp 20) [(46, .agg ⟨[.int .i64 (a : Int), .slice (ad 199997) l l]⟩)] 100 (sub (codeOf Tryz.prog 20) [1,1,1,1,0,1,0,0]) (slZ 94 [(0, .pointer (ad 100004)), (2, .int .i64 cut), (7, .slice (ad 200000) r r), (40, .slice (ad 200000) r r), (41, .int .i64 r), (42, .int .i64 (i : Int))]) (ofL [(100004, dRow z k (wrV 100007 k) fu df), (100006, .row las 1 false), (200000, .row cs 2 false), (199997, .row bs 1 false)] 200001) (bits 8 239) = (let x1 := List.getD [Value.slice (ad 100005) z z, Value.slice (ad 100006) z z, wrV 100007 k, Value.int .i64 fu, Value.bool df] 1 undefX; let x2 := decide ((i : Int) = IntKind.wrap .i64 ((r : Int) - 1)); let x3 := [Value.int .i64 a, Value.slice (ad 199997) l l]; let x0 := List.getD (List.set (splice [Value.int .i64 0, Value.slice none 0 0] 0 x3) 1 (Value.slice (ad 199997) (Int.toNat (if (l : Int) < cut then (l : Int) else cut) - 0) (l - 0))) 1 undefX; let x4 := Value.slice (some ⟨100006, 0 + a * 1, none⟩) (z - a) (z - a); let x5 := decide ((i : Int) < (r : Int)); let x6 := decide ((a : Int) ≤ (z : Int)); some (tn 1 x5 && tn 2 (tn 1 (tn 2 (decide (0 ≤ (i : Int)) && tn 1 x5) && (tn 4 (decide (0 + i * 2 + 2 ≤ List.length cs)) && (tn 1 (same (Value.agg (List.toArray (List.take 2 (List.drop (0 + i * 2) cs)))) (Value.agg { toList := x3 : Array Value })) && tn 3 (decide (0 + List.length x3 ≤ 2) && tn 1 (List.all x3 one))))) && (tn 1 (rp 2 x2 (tn 3 x2)) && (decide (0 ≤ cut) && tn 6 (decide (0 ≤ if (l : Int) < cut then (l : Int) else cut) && tn 1 (decide ((if (l : Int) < cut then (l : Int) else cut) ≤ (l : Int))))) && tn 1 (tn 5 x6 && tn 4 (decide (Int.toNat (if (l : Int) < cut then (l : Int) else cut) - 0 ≤ z - a) && tn 2 (decide (Int.toNat (if (l : Int) < cut then (l : Int) else cut) - 0 = 0))) && tn 1 (tn 1 (same x1 x1) && (tn 1 (same (Value.int .i64 a) (Value.int .i64 a)) && (tn 4 x6 && tn 1 (same x4 x4) && tn 2 (same x0 x0))))))), ((XE.normal, (slZ 94 [(0, Value.pointer (ad 100004)), (2, Value.int .i64 cut), (7, Value.slice (ad 200000) r r), (40, Value.slice (ad 200000) r r), (41, Value.int .i64 r), (42, Value.int .i64 (IntKind.wrap .i64 ((i : Int) + 1)))]), ⟨(nd (ri (nd (ch 14 8616 (lr [Value.int .i64 a, Value.slice (ad 199997) (Int.toNat (if (l : Int) < cut then (l : Int) else cut) - 0) (l - 0)] 0 false)) (ch 14 8615 (lr bs 1 false)))) (nd (nd (ch 14 8616 (lr cs 2 false)) (ch 13 4308 (lr [Value.slice (ad 100005) z z, Value.slice (ad 100006) z z, Value.slice (ad 100007) k k, Value.int .i64 fu, Value.bool df] 0 false))) (ch 14 8617 (lr las 1 false)))), 200012, 0⟩), []))) := by kernel_rfl
def piF (t n : Nat) : Nat → Nat := fun i => if i = 199997 then t else if i < 200000 then i else n + (i - 200000)
theorem piF_keeps (t n : Nat) : Keeps 199997 (piF t n) := fun j hj => by
 unfold piF
 rw [if_neg (by omega), if_pos (by omega)]
theorem ups_ups (S : St) (l1 l2 : List (Nat × Ent)) (n1 n2 : Nat) : (S.ups l1 n1).ups l2 n2 = S.ups (l2 ++ l1) n2 := by
 have key : ∀ (l2 : List (Nat × Ent)), putU (putU S.heap l1) l2 = putU S.heap (l2 ++ l1) := by
  intro l2
  induction l2 with
  | nil => rfl
  | cons p r ih => simp only [putU, List.cons_append, ih]
 simp only [St.ups, key]
def LowR (m : Nat) (y : Ent) : Prop := ∀ π, Keeps m π → RenE π y y
theorem LowR.mono {m n : Nat} {y : Ent} (h : LowR m y) (hm : m ≤ n) : LowR n y := fun π hk => h π (hk.mono hm)
section
variable {S C C' : St} {c : Code} {a a' b : XAct} {e : XE} {lb l1 l : List (Nat × Ent)} {call : XCall} {fg : Nat → Option Nat}
theorem SB.small (hC : CallSound Tryz.prog call) (hg : goodCode c = true) (hrun : Runs Tryz.prog okN call fg c a C e a' C') (t : Nat)
 (hl : LowSt S) (hn : 200000 ≤ S.next) (ht : t < S.next) (hCn : C.next = 200000) (hCg : C.glob = 0) (hCn' : 200000 ≤ C'.next)
 (hc : ∀ i x, C.heap.get i = some x → i ≤ 199997 ∧ i ≠ t ∧ ∃ y, (putU S.heap lb).get (piF t S.next i) = some y ∧ RenE (piF t S.next) x y)
 (hu : Ups (piF t S.next) C C' (S.ups lb S.next) l1)
 (hsame : ∀ i, (putU S.heap (l1 ++ lb)).get i = (putU S.heap l).get i) (hlow : ∀ k y, (k, y) ∈ l → k < S.next ∧ LowR S.next y)
 (ha : lowA 199997 a = true) (hb : lowA 199997 b = true) (hlen : List.length b = List.length a') (hba : ∀ i v, slot b i = some v → slot a' i = some v) :
 SB Tryz.prog S c a (S.ups lb S.next) e b (S.ups l S.next) := by
 have em : Emb2 (piF t S.next) C (S.ups lb S.next) := by
  refine ⟨fun i j x y hi hj hij => ?_, fun i hi => ?_, fun i hi => ?_, hCg⟩
  ·obtain ⟨h1, h2, _⟩ := hc i x hi
   obtain ⟨h3, h4, _⟩ := hc j y hj
   unfold piF at hij
   split at hij
   ·split at hij
    ·omega
    ·rw [if_pos (by omega)] at hij; omega
   ·split at hij
    ·split at hij
     ·omega
     ·split at hij <;> omega
    ·omega
  ·rw [hCn] at hi
   show piF t S.next i < S.next
   unfold piF
   split
   ·exact ht
   ·omega
  ·rw [hCn] at hi
   show piF t S.next i = S.next + (i - C.next)
   unfold piF
   rw [if_neg (by omega), if_neg (by omega), hCn]
 have sr : SR Tryz.prog c a (S.ups lb S.next) e b ((S.ups lb S.next).ups l1 ((S.ups lb S.next).next + (C'.next - C.next))) := by
  refine SR.lift (SR.of mixed okN_ok hC hg hrun) em (fun i x hi => ?_) hu rfl (fun i v hi => ⟨v, hi, lowA_ren ha i v hi _ (piF_keeps _ _)⟩) hlen (fun i v hi => ⟨v, hba i v hi, lowA_ren hb i v hi _ (piF_keeps _ _)⟩)
  obtain ⟨h1, _, h3⟩ := hc i x hi
  exact ⟨by omega, h3⟩
 rw [ups_ups] at sr
 refine (SB.of sr).moves ?_
 refine Moves.back hl ?_ hlow hsame rfl (fun i v hi => ⟨hi, fun π hk => lowA_ren hb i v hi π (hk.mono (by omega))⟩)
 show S.next ≤ S.next + (C'.next - C.next)
 omega
end
section
variable {S C' : St} {c : Code} {a a' b : XAct} {e : XE} {cl lb l1 l : List (Nat × Ent)} {call : XCall} {fg : Nat → Option Nat}
theorem SB.near (hC : CallSound Tryz.prog call) (hg : goodCode c = true) (hrun : Runs Tryz.prog okN call fg c a (ofL cl 200000) e a' C')
 (hl : LowSt S) (hn : 200000 ≤ S.next) (hCn' : 200000 ≤ C'.next)
 (hcl : ∀ p, p ∈ cl → p.1 < 199997 ∧ (putU S.heap lb).get p.1 = some p.2 ∧ LowR 199997 p.2 ∧ ((∃ y, (p.1, y) ∈ l1) ∨ C'.heap.get p.1 = some p.2))
 (hl1 : ∀ p, p ∈ l1 → p.1 < 199997 ∧ C'.heap.get p.1 = some p.2 ∧ LowR 199997 p.2 ∧ p.2.ro = false)
 (hsame : ∀ i, (putU S.heap (l1 ++ lb)).get i = (putU S.heap l).get i) (hlow : ∀ k y, (k, y) ∈ l → k < S.next ∧ LowR S.next y)
 (ha : lowA 199997 a = true) (hb : lowA 199997 b = true) (hlen : List.length b = List.length a') (hba : ∀ i v, slot b i = some v → slot a' i = some v) :
 SB Tryz.prog S c a (S.ups lb S.next) e b (S.ups l S.next) := by
 have hk := piF_keeps 199998 S.next
 have mem : ∀ i x, (ofL cl 200000).heap.get i = some x → (i, x) ∈ cl := fun i x h => by
  rcases get_putL cl .leaf i x h with h1 | h1
  ·simp [PT.get] at h1
  ·exact h1
 refine SB.small hC hg hrun 199998 hl hn (by omega) rfl rfl hCn' (fun i x hi => ?_) ⟨fun i x hi => ?_, fun k y hy => ?_⟩ hsame hlow ha hb hlen hba
 ·obtain ⟨h1, h2, h3, _⟩ := hcl _ (mem i x hi)
  simp only at h1 h2 h3
  exact ⟨by omega, by omega, x, by rw [hk i h1]; exact h2, h3 _ hk⟩
 ·obtain ⟨h1, _, _, h4⟩ := hcl _ (mem i x hi)
  simp only at h1 h4
  rcases h4 with ⟨y, hy⟩ | h4
  ·exact .inl ⟨y, by rw [hk i h1]; exact hy⟩
  ·exact .inr h4
 ·obtain ⟨h1, h2, h3, h4⟩ := hl1 _ hy
  simp only at h1 h2 h3 h4
  exact ⟨k, y, (hk k h1).symm, h2, h3 _ hk, fun h => by rw [h4] at h; cases h⟩
theorem SB.quiet (hC : CallSound Tryz.prog call) (hg : goodCode c = true) (hrun : Runs Tryz.prog okN call fg c a (ofL cl 200000) e a' C')
 (hl : LowSt S) (hn : 200000 ≤ S.next) (hCn' : 200000 ≤ C'.next)
 (hcl : ∀ p, p ∈ cl → p.1 < 199997 ∧ (putU S.heap lb).get p.1 = some p.2 ∧ LowR 199997 p.2 ∧ C'.heap.get p.1 = some p.2)
 (hlow : ∀ k y, (k, y) ∈ lb → k < S.next ∧ LowR S.next y)
 (ha : lowA 199997 a = true) (hb : lowA 199997 b = true) (hlen : List.length b = List.length a') (hba : ∀ i v, slot b i = some v → slot a' i = some v) :
 SB Tryz.prog S c a (S.ups lb S.next) e b (S.ups lb S.next) :=
 SB.near (l1 := []) hC hg hrun hl hn hCn' (fun p hp => let ⟨h1, h2, h3, h4⟩ := hcl p hp; ⟨h1, h2, h3, .inr h4⟩) (fun p hp => by cases hp) (fun i => rfl) hlow ha hb hlen hba
end
structure PCond (q : Nat) (P : Pend) (z : Nat) (S : St) : Prop where
 next : 200000 ≤ S.next
 low : LowSt S
 many : P.length ≤ 40
 size : z < 20000
 fits : FitsP z P
 rows : ∀ (i : Nat) p, P[i]? = some p → S.heap.get (tid (100 + 2 * i + q)) = some (.row p.2 1 false)
theorem tid_lt {i q : Nat} (hi : i < 40) (hq : q < 2) : tid (100 + 2 * i + q) < 199997 := by unfold tid; omega
theorem tid_mod (j : Nat) : tid j % 1024 = 1022 := by unfold tid; omega
theorem PCond.arr {q : Nat} {P : Pend} {z : Nat} {S : St} (h : PCond q P z S) (hq : q < 2) : (arrC q 0 P).all (low1 199997) = true :=
 arrC_low q 199997 P 0 (by have := h.many; unfold tid; omega)
def arrS (q : Nat) (P : Pend) (i l : Nat) : List Value := (arrC q 0 P).set (2 * i + 1) (.slice (some ⟨199997, 0, none⟩) l l)
theorem arrS_length (q : Nat) (P : Pend) (i l : Nat) : (arrS q P i l).length = 2 * P.length := by simp [arrS, arrC_length]
theorem arrS_take {q : Nat} {P : Pend} {i : Nat} {p : Nat × List Value} (h : P[i]? = some p) :
 List.take 2 (List.drop (0 + i * 2) (arrS q P i p.2.length)) = [.int .i64 (p.1 : Int), .slice (some ⟨199997, 0, none⟩) p.2.length p.2.length] := by
 obtain ⟨h1, h2⟩ := arrC_at q P 0 i p h
 have hi := (List.getElem?_eq_some_iff.1 h).1
 apply List.ext_getElem?
 intro j
 rw [List.getElem?_take]
 split
 ·rename_i hj
  rw [List.getElem?_drop]
  have hj' : j = 0 ∨ j = 1 := by omega
  rcases hj' with rfl | rfl
  ·unfold arrS
   rw [List.getElem?_set_ne (by omega), show 0 + i * 2 + 0 = 2 * i by omega, h1]; rfl
  ·unfold arrS
   rw [show 0 + i * 2 + 1 = 2 * i + 1 by omega, List.getElem?_set_self (by rw [arrC_length]; omega)]; rfl
 ·rename_i hj
  rw [List.getElem?_eq_none (by simp; omega)]
theorem arrS_ren {q : Nat} {P : Pend} {z : Nat} {S : St} (hP : PCond q P z S) (hq : q < 2) {i : Nat} {p : Nat × List Value} (h : P[i]? = some p) :
 RenL (piF (tid (100 + 2 * i + q)) S.next) (arrS q P i p.2.length) (arrC q 0 P) := by
 obtain ⟨_, h2⟩ := arrC_at q P 0 i p h
 refine RenL.set (low1s_ren (piF_keeps _ _) (hP.arr hq)) h2 ?_
 have := RenV.slice (π := piF (tid (100 + 2 * i + q)) S.next) 199997 0 p.2.length p.2.length
 rw [show piF (tid (100 + 2 * i + q)) S.next 199997 = tid (100 + 2 * (0 + i) + q) by unfold piF; rw [if_pos rfl, Nat.zero_add]] at this
 exact this
section
variable {S C' : St} {c : Code} {a a' b : XAct} {e : XE} {cl lb l1 l : List (Nat × Ent)} {call : XCall} {fg : Nat → Option Nat} {q arr z i : Nat} {P : Pend} {p : Nat × List Value}
theorem SB.elem (hP : PCond q P z S) (hq : q < 2) (hp : P[i]? = some p) (harr : arr < 199997) (hC : CallSound Tryz.prog call) (hg : goodCode c = true)
 (hrun : Runs Tryz.prog okN call fg c a (ofL (cl ++ [(arr, .row (arrS q P i p.2.length) 2 false), (199997, .row p.2 1 false)]) 200000) e a' C') (hCn' : 200000 ≤ C'.next)
 (hga : (putU S.heap lb).get arr = some (.row (arrC q 0 P) 2 false)) (hgr : (putU S.heap lb).get (tid (100 + 2 * i + q)) = some (.row p.2 1 false))
 (hna : arr ≠ tid (100 + 2 * i + q)) (ca : C'.heap.get arr = some (.row (arrS q P i p.2.length) 2 false)) (cr : C'.heap.get 199997 = some (.row p.2 1 false))
 (hcl : ∀ p, p ∈ cl → p.1 < 199997 ∧ p.1 % 1024 ≠ 1022 ∧ (putU S.heap lb).get p.1 = some p.2 ∧ LowR 199997 p.2 ∧ ((∃ y, (p.1, y) ∈ l1) ∨ C'.heap.get p.1 = some p.2))
 (hl1 : ∀ p, p ∈ l1 → p.1 < 199997 ∧ C'.heap.get p.1 = some p.2 ∧ LowR 199997 p.2 ∧ p.2.ro = false)
 (hsame : ∀ i, (putU S.heap (l1 ++ lb)).get i = (putU S.heap l).get i) (hlow : ∀ k y, (k, y) ∈ l → k < S.next ∧ LowR S.next y)
 (ha : lowA 199997 a = true) (hb : lowA 199997 b = true) (hlen : List.length b = List.length a') (hba : ∀ i v, slot b i = some v → slot a' i = some v) :
 SB Tryz.prog S c a (S.ups lb S.next) e b (S.ups l S.next) := by
 have hi := (List.getElem?_eq_some_iff.1 hp).1
 have hn := hP.next
 have hm := hP.many
 have ht := tid_lt (i := i) (q := q) (by omega) hq
 have hfit := hP.fits p (List.mem_of_getElem? hp)
 have hk := piF_keeps (tid (100 + 2 * i + q)) S.next
 have hmod := tid_mod (100 + 2 * i + q)
 have mem : ∀ j x, (ofL (cl ++ [(arr, .row (arrS q P i p.2.length) 2 false), (199997, .row p.2 1 false)]) 200000).heap.get j = some x → (j, x) ∈ cl ∨ (j = arr ∧ x = .row (arrS q P i p.2.length) 2 false) ∨ (j = 199997 ∧ x = .row p.2 1 false) := fun j x h => by
  rcases get_putL _ .leaf j x h with h1 | h1
  ·simp [PT.get] at h1
  ·simpa using h1
 refine SB.small hC hg hrun (tid (100 + 2 * i + q)) hP.low hn (by omega) rfl rfl hCn' (fun j x hj => ?_) ⟨fun j x hj => ?_, fun k y hy => ?_⟩ hsame hlow ha hb hlen hba
 ·rcases mem j x hj with h | ⟨rfl, rfl⟩ | ⟨rfl, rfl⟩
  ·obtain ⟨h1, h2, h3, h4, _⟩ := hcl _ h
   simp only at h1 h2 h3 h4
   exact ⟨by omega, by omega, x, by rw [hk j h1]; exact h3, h4 _ hk⟩
  ·exact ⟨by omega, hna, _, by rw [hk _ harr]; exact hga, .row (arrS_ren hP hq hp)⟩
  ·exact ⟨by omega, by omega, _, by rw [show piF (tid (100 + 2 * i + q)) S.next 199997 = tid (100 + 2 * i + q) by unfold piF; rw [if_pos rfl]]; exact hgr, bytes_ren hfit.2 _⟩
 ·rcases mem j x hj with h | ⟨rfl, rfl⟩ | ⟨rfl, rfl⟩
  ·obtain ⟨h1, _, _, _, h5⟩ := hcl _ h
   simp only at h1 h5
   rcases h5 with ⟨y, hy⟩ | h5
   ·exact .inl ⟨y, by rw [hk j h1]; exact hy⟩
   ·exact .inr h5
  ·exact .inr ca
  ·exact .inr cr
 ·obtain ⟨h1, h2, h3, h4⟩ := hl1 _ hy
  simp only at h1 h2 h3 h4
  exact ⟨k, y, (hk k h1).symm, h2, h3 _ hk, fun h => by rw [h4] at h; cases h⟩
end
theorem get_ofL {l : List (Nat × Ent)} {n i : Nat} {x : Ent} (h : (ofL l n).heap.get i = some x) : (i, x) ∈ l := by
 rcases get_putL l .leaf i x h with h1 | h1
 ·simp [PT.get] at h1
 ·exact h1
end Go.Xe
