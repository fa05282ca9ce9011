/-
  read: a known function.
-/
import Derived.Test.YtkhjbbigangbdaaDoorM10
import Derived.Test.YtkhjbbigangbdaaDoorM09
set_option linter.unusedVariables false
set_option linter.unusedSimpArgs false
namespace Go.Xe
open Go Go.Proofs

def byteN (cs : List Value) (i : Nat) : Int := intOf (cs.getD i undefX)
def rdK (cs : List Value) (n : Nat) : Nat := leN ((cs.drop (n + 19)).take 2)
def rdV (cs : List Value) (n : Nat) : Nat := leN ((cs.drop (n + 21)).take 4)
def rdSum (cs : List Value) (n E : Nat) : Bool := decide (getFrom 0 0 ((cs.drop (n + E)).take 8) = sumFrom (sumSeed (n : Int)) ((cs.drop n).take E))
/-- there is a record at a place -/
def isRec (cs : List Value) (len n : Nat) : Bool :=
  decide (33 ≤ len - n) && decide (byteN cs n = 99) && decide (byteN cs (n + 1) = 107) && decide (byteN cs (n + 2) ≤ 1) && decide (1 ≤ rdK cs n) && decide (rdK cs n ≤ 200) &&
    decide (33 + rdK cs n + rdV cs n ≤ len - n) && rdSum cs n (25 + rdK cs n + rdV cs n)
def recOf (cs : List Value) (n : Nat) (r : Bool) : Value :=
  .agg #[.int .i64 (if r then (n : Int) else 0), .int .i64 (if r then ((33 + rdK cs n + rdV cs n : Nat) : Int) else 0), .int .u64 (if r then getFrom 0 0 ((cs.drop (n + 3)).take 8) else 0),
    .string (if r then ⟨(bytesOf ((cs.drop (n + 25)).take (rdK cs n))).toArray⟩ else ⟨#[]⟩), .int .i64 (if r then (rdV cs n : Int) else 0), .bool (r && decide (byteN cs (n + 2) = 1))]
def readV' (cs : List Value) (n : Nat) (r : Bool) : Value := .tuple #[recOf cs n r, .int .u64 (if r then getFrom 0 0 ((cs.drop (n + 11)).take 8) else 0), .bool r]

theorem okOrc1 : OrcSound Tryd.prog orc1 := fun f F h => by
  unfold orc1 at h
  split at h
  · cases h; rename_i hf; subst hf; exact getF_sound
  · split at h
    · cases h; rename_i hf; subst hf; exact sumF_sound
    · cases h
noncomputable abbrev xc1 : XCall := xgoO Tryd.prog okN orc1 kp 100
theorem yx1 : YX yc1 xc1 := ygo_is orc1 kp 100
theorem call1 : CallSound Tryd.prog xc1 := xgoO_sound mixed okN_ok okN_good okOrc1 kp 100
abbrev Run18 := Runs Tryd.prog okN xc1 (kp 18)
theorem code18 : codeOf Tryd.prog 18 = .seq (sub (codeOf Tryd.prog 18) [0]) (.seq (sub (codeOf Tryd.prog 18) [1,0]) (.seq (sub (codeOf Tryd.prog 18) [1,1,0]) (.seq (sub (codeOf Tryd.prog 18) [1,1,1,0]) (.seq (sub (codeOf Tryd.prog 18) [1,1,1,1,0]) (.seq (sub (codeOf Tryd.prog 18) [1,1,1,1,1,0]) (.seq (sub (codeOf Tryd.prog 18) [1,1,1,1,1,1,0]) (sub (codeOf Tryd.prog 18) [1,1,1,1,1,1,1]))))))) := by kernel_rfl
theorem body18 : Tryd.f18.body = some (codeOf Tryd.prog 18) := by kernel_rfl

theorem sameL_self : ∀ (l : List Value), (∀ v ∈ l, same1 v v = true) → sameL l l = true
  | [], _ => rfl
  | v :: r, h => by simp only [sameL, h v (by simp), Bool.true_and]; exact sameL_self r (fun u hu => h u (by simp [hu]))
theorem beqBytes_self : ∀ l, beqBytes l l = true
  | [] => rfl
  | b :: r => by simp [beqBytes, beqBytes_self r]
theorem same_int (k : IntKind) (n : Int) : same (.int k n) (.int k n) = true := by simp [same, same1]
theorem same_bool (b : Bool) : same (.bool b) (.bool b) = true := by simp [same, same1]
theorem same_str (b : ByteArray) : same (.string b) (.string b) = true := by simp [same, same1, beqBytes_self]
theorem same_ptr (a : Addr) : same (.pointer (some a)) (.pointer (some a)) = true := by simp [same, same1]
theorem same_slice (a : Addr) (l c : Nat) : same (.slice (some a) l c) (.slice (some a) l c) = true := by simp [same, same1]
end Go.Xe
/-
  read: what its body gives.
-/
set_option linter.unusedVariables false
set_option linter.unusedSimpArgs false
namespace Go.Xe
open Go Go.Proofs

theorem wrapAdd {a b : Nat} (h : a + b < 2 ^ 63) : IntKind.wrap .i64 ((a : Int) + (b : Int)) = ((a + b : Nat) : Int) := by
  rw [wrap64 (by omega) (by omega)]; omega
theorem wrapSub {a b : Nat} (h : b ≤ a) (h2 : a < 2 ^ 63) : IntKind.wrap .i64 ((a : Int) - (b : Int)) = ((a - b : Nat) : Int) := by
  rw [wrap64 (by omega) (by omega)]; omega
theorem take_bytes {cs : List Value} (h : cs.all isByte = true) (o k : Nat) : ((cs.drop o).take k).all isByte = true := by
  rw [List.all_eq_true] at h ⊢
  exact fun v hv => h v (List.mem_of_mem_drop (List.mem_of_mem_take hv))
theorem byte_at {cs : List Value} (h : cs.all isByte = true) {i : Nat} (hi : i < cs.length) : isByte (cs.getD i undefX) = true := by
  rw [List.getD_eq_getElem?_getD, List.getElem?_eq_getElem hi, Option.getD_some]
  exact List.all_eq_true.1 h _ (List.getElem_mem _)
theorem len_get {cs : List Value} {o k : Nat} : ((cs.drop o).take k).length ≤ k := by simp; omega

theorem rdK_lt {cs : List Value} (h : cs.all isByte = true) (n : Nat) : rdK cs n < 65536 := by
  have h1 := leN_lt (take_bytes h (n + 19) 2)
  have h2 : 256 ^ ((cs.drop (n + 19)).take 2).length ≤ 256 ^ 2 := Nat.pow_le_pow_right (by omega) len_get
  unfold rdK; omega
theorem rdV_lt {cs : List Value} (h : cs.all isByte = true) (n : Nat) : rdV cs n < 4294967296 := by
  have h1 := leN_lt (take_bytes h (n + 21) 4)
  have h2 : 256 ^ ((cs.drop (n + 21)).take 4).length ≤ 256 ^ 4 := Nat.pow_le_pow_right (by omega) len_get
  unfold rdV; omega

theorem read_runs {n len cap : Nat} {cs : List Value} {ro : Bool} (hlen : len < 2 ^ 40) (hlc : len ≤ cap) (hn : n ≤ len) (hcs : len ≤ cs.length) (hb : cs.all isByte = true) :
    ∃ a' T, Run18 (codeOf Tryd.prog 18) (startX Tryd.f18 [.slice (some ⟨0, 0, none⟩) len cap, .int .i64 (n : Int)]) (sumHeap cs ro) .ret a' T ∧
      xres Tryd.prog Tryd.f18 a' T = some (readV' cs n (isRec cs len n)) ∧ T.heap.get 0 = some (.row cs 1 ro) ∧ 1 ≤ T.next ∧ T.next ≤ 51 ∧ T.glob = 0 := by
  have h0 := Runs.path yx1 (readP0 n len cap cs ro) rfl
  have h1 := Runs.path yx1 (readP1 n len cap cs ro) (by
    simp only [Bool.and_true, Bool.and_eq_true, decide_eq_true_eq]; omega)
  have hi : ∀ i, i < cs.length → isInt .u8 (cs.getD i undefX) = true := fun i hi => isByte_int (byte_at hb hi)
  have hall := bytes_ints hb
  have e0 : 0 + n * 1 = n := by omega
  rw [e0] at h1
  rw [code18]
  by_cases c1 : len - n < 33
  · have hr : isRec cs len n = false := by unfold isRec; rw [decide_eq_false (by omega : ¬ 33 ≤ len - n)]; rfl
    refine ⟨_, _, Runs.seq h0 (Runs.seq h1 (Runs.seq_ret (Runs.path yx1 (readShort n n (len - n) (cap - n) cs ro) ?_))), ?_, rfl, Nat.le_of_ble_eq_true rfl, Nat.le_of_ble_eq_true rfl, rfl⟩
    · rw [decide_eq_true (by omega : ((len - n : Nat) : Int) < 33)]; rfl
    · rw [hr]; kernel_rfl
  have t0 := hi (n + 0) (by omega)
  have t1 := hi (n + 1) (by omega)
  have t2 := hi (n + 2) (by omega)
  have d1 : decide (((len - n : Nat) : Int) < 33) = false := decide_eq_false (by omega)
  have d2 : decide (0 < ((len - n : Nat) : Int)) = true := decide_eq_true (by omega)
  have d3 : decide (1 < ((len - n : Nat) : Int)) = true := decide_eq_true (by omega)
  have d4 : decide (2 < ((len - n : Nat) : Int)) = true := decide_eq_true (by omega)
  have d5 : decide (n + 0 < cs.length) = true := decide_eq_true (by omega)
  have d6 : decide (n + 1 < cs.length) = true := decide_eq_true (by omega)
  have d7 : decide (n + 2 < cs.length) = true := decide_eq_true (by omega)
  by_cases c2 : intOf (cs.getD n undefX) = 99
  case neg =>
    have hr : isRec cs len n = false := by unfold isRec byteN; rw [decide_eq_false c2]; simp
    have f2 : decide (intOf (cs.getD (n + 0) undefX) = 99) = false := decide_eq_false c2
    refine ⟨_, _, Runs.seq h0 (Runs.seq h1 (Runs.seq_ret (Runs.path yx1 (readC n n (len - n) (cap - n) cs ro) ?_))), ?_, rfl, Nat.le_of_ble_eq_true rfl, Nat.le_of_ble_eq_true rfl, rfl⟩
    · rw [d1, d2, d5, t0, f2]; rfl
    · rw [hr]; kernel_rfl
  have f2 : decide (intOf (cs.getD (n + 0) undefX) = 99) = true := decide_eq_true c2
  by_cases c3 : intOf (cs.getD (n + 1) undefX) = 107
  case neg =>
    have hr : isRec cs len n = false := by unfold isRec byteN; rw [decide_eq_false c3]; simp
    have f3 := decide_eq_false c3
    refine ⟨_, _, Runs.seq h0 (Runs.seq h1 (Runs.seq_ret (Runs.path yx1 (readK n n (len - n) (cap - n) cs ro) ?_))), ?_, rfl, Nat.le_of_ble_eq_true rfl, Nat.le_of_ble_eq_true rfl, rfl⟩
    · rw [d1, d2, d3, d5, d6, t0, t1, f2, f3]; rfl
    · rw [hr]; kernel_rfl
  have f3 := decide_eq_true c3
  by_cases c4 : 1 < intOf (cs.getD (n + 2) undefX)
  case pos =>
    have hr : isRec cs len n = false := by unfold isRec byteN; rw [decide_eq_false (by omega : ¬ intOf (cs.getD (n + 2) undefX) ≤ 1)]; simp
    have f4 := decide_eq_true c4
    refine ⟨_, _, Runs.seq h0 (Runs.seq h1 (Runs.seq_ret (Runs.path yx1 (readX n n (len - n) (cap - n) cs ro) ?_))), ?_, rfl, Nat.le_of_ble_eq_true rfl, Nat.le_of_ble_eq_true rfl, rfl⟩
    · rw [d1, d2, d3, d4, d5, d6, d7, t0, t1, t2, f2, f3, f4]; rfl
    · rw [hr]; kernel_rfl
  have f4 := decide_eq_false c4
  have h2 := Runs.path yx1 (readA n n (len - n) (cap - n) cs ro) (by rw [d1, d2, d3, d4, d5, d6, d7, t0, t1, t2, f2, f3, f4]; rfl)
  have h3 := Runs.path yx1 (readB n n (len - n) (cap - n) cs ro (some (.bool (decide (1 < intOf (cs.getD (n + 2) undefX)))))) (by
    simp only [true_and, and_true, same_int, same_slice, hall, Bool.and_true, Bool.and_eq_true, decide_eq_true_eq]; omega)
  have eK : IntKind.wrap IntKind.i64 (getFrom 0 0 ((cs.drop (n + 19)).take 2)) = (rdK cs n : Int) := by
    have := rdK_lt hb n
    rw [get_eq _ (Nat.le_trans len_get (by omega)) (take_bytes hb _ _)]
    exact wrap64 (by omega) (by unfold rdK at this; omega)
  have eV : IntKind.wrap IntKind.i64 (getFrom 0 0 ((cs.drop (n + 21)).take 4)) = (rdV cs n : Int) := by
    have := rdV_lt hb n
    rw [get_eq _ (Nat.le_trans len_get (by omega)) (take_bytes hb _ _)]
    exact wrap64 (by omega) (by unfold rdV at this; omega)
  rw [eK, eV] at h3
  have hV := rdV_lt hb n
  by_cases c5 : rdK cs n < 1
  · have hr : isRec cs len n = false := by unfold isRec; rw [decide_eq_false (by omega : ¬ 1 ≤ rdK cs n)]; simp
    refine ⟨_, _, Runs.seq h0 (Runs.seq h1 (Runs.seq h2 (Runs.seq h3 (Runs.seq_ret (Runs.path yx1 (readK0 n n (len - n) (cap - n) (rdK cs n) (rdV cs n) cs ro) ?_))))), ?_, rfl, Nat.le_of_ble_eq_true rfl, Nat.le_of_ble_eq_true rfl, rfl⟩
    · rw [decide_eq_true (by omega : ((rdK cs n : Nat) : Int) < 1)]; rfl
    · rw [hr]; kernel_rfl
  have f5 : decide (((rdK cs n : Nat) : Int) < 1) = false := decide_eq_false (by omega)
  by_cases c6 : 200 < rdK cs n
  · have hr : isRec cs len n = false := by unfold isRec; rw [decide_eq_false (by omega : ¬ rdK cs n ≤ 200)]; simp
    refine ⟨_, _, Runs.seq h0 (Runs.seq h1 (Runs.seq h2 (Runs.seq h3 (Runs.seq_ret (Runs.path yx1 (readK200 n n (len - n) (cap - n) (rdK cs n) (rdV cs n) cs ro) ?_))))), ?_, rfl, Nat.le_of_ble_eq_true rfl, Nat.le_of_ble_eq_true rfl, rfl⟩
    · rw [f5, decide_eq_true (by omega : 200 < ((rdK cs n : Nat) : Int))]; rfl
    · rw [hr]; kernel_rfl
  have f6 : decide (200 < ((rdK cs n : Nat) : Int)) = false := decide_eq_false (by omega)
  have eL : IntKind.wrap IntKind.i64 (((len - n : Nat) : Int) - 33) = ((len - n - 33 : Nat) : Int) := by rw [wrap64 (by omega) (by omega)]; omega
  have eM : IntKind.wrap IntKind.i64 (((len - n - 33 : Nat) : Int) - (rdK cs n : Int)) = ((len - n - 33 : Nat) : Int) - (rdK cs n : Int) := by
    unfold IntKind.wrap
    have hb : IntKind.i64.bits = 64 := rfl
    have hs : IntKind.i64.signed = true := rfl
    rw [hb, hs]
    by_cases hneg : ((len - n - 33 : Nat) : Int) < (rdK cs n : Int)
    · have hm : (((len - n - 33 : Nat) : Int) - (rdK cs n : Int)) % (2 ^ 64 : Int) = (((len - n - 33 : Nat) : Int) - (rdK cs n : Int)) + 2 ^ 64 := by omega
      rw [hm]
      simp only [Bool.true_and, decide_eq_true_eq]
      rw [if_pos (by omega)]; omega
    · have hm : (((len - n - 33 : Nat) : Int) - (rdK cs n : Int)) % (2 ^ 64 : Int) = (((len - n - 33 : Nat) : Int) - (rdK cs n : Int)) := Int.emod_eq_of_lt (by omega) (by omega)
      rw [hm]
      simp only [Bool.true_and, decide_eq_true_eq]
      rw [if_neg (by omega)]
  by_cases c7 : len - n < 33 + rdK cs n + rdV cs n
  · have hr : isRec cs len n = false := by unfold isRec; rw [decide_eq_false (by omega : ¬ 33 + rdK cs n + rdV cs n ≤ len - n)]; simp
    refine ⟨_, _, Runs.seq h0 (Runs.seq h1 (Runs.seq h2 (Runs.seq h3 (Runs.seq_ret (Runs.path yx1 (readV n n (len - n) (cap - n) (rdK cs n) (rdV cs n) cs ro) ?_))))), ?_, rfl, Nat.le_of_ble_eq_true rfl, Nat.le_of_ble_eq_true rfl, rfl⟩
    · rw [f5, f6, eL, eM, decide_eq_true (by omega : ((len - n - 33 : Nat) : Int) - (rdK cs n : Int) < (rdV cs n : Int))]; rfl
    · rw [hr]; kernel_rfl
  have f7 : decide (((len - n - 33 : Nat) : Int) - (rdK cs n : Int) < (rdV cs n : Int)) = false := decide_eq_false (by omega)
  have h4 := Runs.path yx1 (readD n n (len - n) (cap - n) (rdK cs n) (rdV cs n) cs ro) (by rw [eL, eM, f5, f6, f7]; rfl)
  have h5 := Runs.path yx1 (readE n n (len - n) (cap - n) (rdK cs n) (rdV cs n) cs ro (some (.bool (decide (IntKind.wrap IntKind.i64 (IntKind.wrap IntKind.i64 (((len - n : Nat) : Int) - 33) - (rdK cs n : Int)) < (rdV cs n : Int)))))) rfl
  have eE1 : IntKind.wrap IntKind.i64 (25 + (rdK cs n : Int)) = ((25 + rdK cs n : Nat) : Int) := wrapAdd (a := 25) (by omega)
  have eE2 : IntKind.wrap IntKind.i64 (((25 + rdK cs n : Nat) : Int) + (rdV cs n : Int)) = ((25 + rdK cs n + rdV cs n : Nat) : Int) := wrapAdd (by omega)
  rw [eE1, eE2] at h5
  generalize hE : 25 + rdK cs n + rdV cs n = E at *
  have eE8 : IntKind.wrap IntKind.i64 ((E : Int) + 8) = ((E + 8 : Nat) : Int) := wrapAdd (b := 8) (by omega)
  have eT : Int.toNat ((E + 8 : Nat) : Int) - E = 8 := by rw [Int.toNat_natCast]; omega
  by_cases c8 : getFrom 0 0 ((cs.drop (n + E * 1)).take 8) = sumFrom (sumSeed (n : Int)) ((cs.drop (n + 0)).take (E - 0))
  case neg =>
    have hr : isRec cs len n = false := by
      unfold isRec rdSum
      rw [hE, decide_eq_false (p := getFrom _ _ _ = _) (by rw [Nat.mul_one, Nat.add_zero, Nat.sub_zero] at c8; exact c8)]; simp
    refine ⟨_, _, Runs.seq h0 (Runs.seq h1 (Runs.seq h2 (Runs.seq h3 (Runs.seq h4 (Runs.seq h5 (Runs.seq_ret (Runs.path yx1 (readSum n n (len - n) (cap - n) (rdK cs n) (rdV cs n) E cs ro) ?_))))))), ?_, rfl, Nat.le_of_ble_eq_true rfl, Nat.le_of_ble_eq_true rfl, rfl⟩
    · rw [eE8, eT]
      simp only [true_and, and_true, same_int, same_slice, same_bool, hall, decide_eq_false c8, Bool.not_false, Bool.and_true, Bool.and_eq_true, decide_eq_true_eq, Int.toNat_natCast]; omega
    · rw [hr]; kernel_rfl
  have h6 := Runs.path yx1 (readF n n (len - n) (cap - n) (rdK cs n) (rdV cs n) E cs ro) (by
    rw [eE8, eT]
    simp only [true_and, and_true, same_int, same_slice, same_bool, hall, decide_eq_true c8, Bool.not_true, Bool.not_false, Bool.and_true, Bool.and_eq_true, decide_eq_true_eq, Int.toNat_natCast]; omega)
  have hr : isRec cs len n = true := by
    unfold isRec rdSum byteN
    rw [hE]
    simp only [Bool.and_eq_true, decide_eq_true_eq]
    rw [Nat.mul_one, Nat.add_zero, Nat.sub_zero] at c8
    exact ⟨⟨⟨⟨⟨⟨⟨by omega, c2⟩, c3⟩, by omega⟩, by omega⟩, by omega⟩, by omega⟩, c8⟩
  have hkey : (List.all (List.take (rdK cs n) (List.drop (n + 25) cs)) (isInt IntKind.u8)) = true := bytes_ints (take_bytes hb _ _)
  have eK2 : Int.toNat ((25 + rdK cs n : Nat) : Int) - 25 = rdK cs n := by rw [Int.toNat_natCast]; omega
  have h7 := fun j => Runs.path yx1 (readG n n (len - n) (cap - n) (rdK cs n) (rdV cs n) E cs ro j) (by
    rw [eE1, eE8, eK2]
    simp only [true_and, and_true, same_int, same_slice, same_bool, same_str, same_ptr, hall, hkey, t2, Bool.and_true, Bool.and_eq_true, decide_eq_true_eq, Int.toNat_natCast, Bool.not_eq_true', decide_eq_false_iff_not]
    simp only [same, sameL, same1, sameM, sameA, splice, List.take_succ_cons, List.take_zero, List.drop_succ_cons, List.drop_zero, List.drop_nil, List.nil_append, List.cons_append, List.append_nil, List.length_cons, List.length_nil, Nat.zero_add, Nat.reduceAdd, beqBytes_self, decide_true, Bool.and_self, beq_self_eq_true, and_true, true_and]
    omega)
  refine ⟨_, _, Runs.seq h0 (Runs.seq h1 (Runs.seq h2 (Runs.seq h3 (Runs.seq h4 (Runs.seq h5 (Runs.seq h6 (h7 _))))))), ?_, rfl, Nat.le_of_ble_eq_true rfl, Nat.le_of_ble_eq_true rfl, rfl⟩
  rw [hr]
  refine Eq.trans (b := some (.tuple #[.agg #[.int .i64 (n : Int), .int .i64 (IntKind.wrap .i64 ((E : Int) + 8)), .int .u64 (getFrom 0 0 ((cs.drop (n + 3)).take 8)),
    .string ⟨(bytesOf ((cs.drop (n + 25)).take (Int.toNat (IntKind.wrap IntKind.i64 (25 + (rdK cs n : Int))) - 25))).toArray⟩, .int .i64 (rdV cs n : Int), .bool (decide (intOf (cs.getD (n + 2) undefX) = 1))],
    .int .u64 (getFrom 0 0 ((cs.drop (n + 11)).take 8)), .bool true])) (by kernel_rfl) ?_
  rw [eE8, eE1, eK2, ← hE]
  unfold readV' recOf byteN
  simp only [if_true, Bool.true_and]
  rw [show 33 + rdK cs n + rdV cs n = 25 + rdK cs n + rdV cs n + 8 by omega]
end Go.Xe
/-
  read (18): a known function.
-/
set_option linter.unusedVariables false
set_option linter.unusedSimpArgs false
namespace Go.Xe
open Go Go.Proofs

def readFn (args : List Value) (S : St) : Y (Value × St) :=
  match args with
  | [.slice (some ⟨b, 0, none⟩) len cap, .int .i64 at'] => match S.heap.get b with
    | some (.row cs 1 ro) => .req (decide (len < 1099511627776)) (.req (decide (len ≤ cap)) (.req (decide (0 ≤ at')) (.req (decide (at'.toNat ≤ len)) (.req (decide (len ≤ cs.length)) (.req (cs.all isByte)
        (.pure (readV' cs at'.toNat (isRec cs len at'.toNat), { S with next := S.next + 50 })))))))
    | _ => none
  | _ => none

theorem recOf_ren (cs : List Value) (n : Nat) (r : Bool) (π : Nat → Nat) : RenV π (recOf cs n r) (recOf cs n r) :=
  .agg (.plain rfl)
theorem readV_ren (cs : List Value) (n : Nat) (r : Bool) (π : Nat → Nat) : RenV π (readV' cs n r) (readV' cs n r) :=
  .tuple (.cons (recOf_ren cs n r π) (.cons (.int _ _) (.cons (.bool _) .nil)))

theorem readFn_sound (args : List Value) (S : St) (v : Value) (S' : St) (hx : readFn args S = some (true, (v, S'))) (α : Place) (w : World) (args' : Array Value) (h : Rel α S w) (ha : LRel α args args'.toList) :
    Calls Tryd.prog 18 args' w fun e w' => ∃ β v', e = .returned v' ∧ Next α S w β S' w' ∧ VRel β v v' := by
  unfold readFn at hx
  split at hx
  · rename_i b len cap at'
    split at hx
    · rename_i cs ro hb
      simp only [Y.req_is, Y.pure_is, decide_eq_true_eq, Prod.mk.injEq] at hx
      obtain ⟨h1, h2, h3, h4, h5, h6, rfl, rfl⟩ := hx
      obtain ⟨n, rfl⟩ : ∃ n : Nat, at' = (n : Int) := ⟨at'.toNat, by omega⟩
      rw [Int.toNat_natCast] at *
      refine one_none h hb (fun π => .plain (ints_plain (bytes_ints h6))) (fun π => readV_ren cs n _ π) (fun hr => ?_)
      obtain ⟨a', T, hrun, hres, g1, g2, g3, g4⟩ := read_runs (cap := cap) (ro := ro) (by omega) h2 h4 h5 h6
      have hl : LRel (fun i => α (pi1 b S i)) [.slice (some ⟨0, 0, none⟩) len cap, .int .i64 (n : Int)] args'.toList :=
        (RenL.lrel (π := pi1 b S) (.cons (.slice 0 0 len cap) (.cons (.int _ _) .nil)) α _).2 (by simpa [pi1] using ha)
      refine (Runs.calls mixed okN_ok call1 Tryd.func18 body18 (okN_good 18 _ _ rfl Tryd.func18 body18) hrun (.inr rfl) hres hr hl).mono ?_
      rintro x w' ⟨β, v', rfl, hn, hv⟩
      refine ⟨β, v', rfl, ?_, hv⟩
      have := hn.widen (m := 51) g3
      refine this.same (fun i e hi => ?_) rfl (by simpa using g4.symm)
      obtain ⟨rfl, rfl⟩ := get1 hi
      exact g1
    · cases hx
  · cases hx
end Go.Xe
/-
  put (48): a known function, for 2, 4 and 8 bytes.
-/
set_option linter.unusedVariables false
set_option linter.unusedSimpArgs false
namespace Go.Xe
open Go Go.Proofs

def putF (args : List Value) (S : St) : Y (Value × St) :=
  match args with
  | [.slice (some ⟨b, o, none⟩) len cap, .int .u64 n, .int .i64 k] => match S.heap.get b with
    | some (.row cs 1 false) => .req (decide (len = cap)) (.req (decide (len < 1099511627776)) (.req (decide (0 ≤ n)) (.req (decide (o + len ≤ cs.length)) (.req (cs.all isByte) (.req (decide (k = 2 ∨ k = 4 ∨ k = 8))
        (.pure (.slice (some ⟨S.next + (2 * k.toNat - 1), 0, none⟩) (len + k.toNat) (len + k.toNat),
          { S with heap := (S.heap.set b none).set (S.next + (2 * k.toNat - 1)) (some (.row ((cs.drop o).take len ++ leB n.toNat k.toNat) 1 false)), next := S.next + 2 * k.toNat })))))))
    | _ => none
  | _ => none

theorem takeAll {L : List Value} {m : Nat} (h : L.length ≤ m) : List.take (m * 1) (List.drop 0 L) = L := by
  rw [Nat.mul_one, List.drop_zero, List.take_of_length_le h]
theorem cellOf (x : Value) : List.take 1 (List.drop 0 (splice (zerosL [Value.int .u8 0] 1) 0 [x])) = [x] := rfl
theorem fdivN (n : Nat) : Int.fdiv (n : Int) 256 = ((n / 256 : Nat) : Int) := by
  rw [Int.fdiv_eq_ediv_of_nonneg _ (by decide)]; rfl
theorem ones_bytes {l : List Value} (h : l.all isByte = true) : l.all one = true := by
  rw [List.all_eq_true] at h ⊢
  intro v hv
  obtain ⟨n, _, rfl⟩ := isByte_nat (h v hv)
  rfl
theorem oneInt (k : IntKind) (n : Int) : one (.int k n) = true := rfl
theorem body48 : Tryd.f48.body = some (codeOf Tryd.prog 48) := by kernel_rfl

abbrev Run48 := Runs Tryd.prog okN xc0 (kp 48)
theorem put_runs {n o len : Nat} {cs : List Value} (k : Nat) (hk : k = 2 ∨ k = 4 ∨ k = 8) (hlen : len < 1099511627776) (hcs : o + len ≤ cs.length) (hb : cs.all isByte = true) :
    ∃ a' T, Run48 (codeOf Tryd.prog 48) (startX Tryd.f48 [.slice (some ⟨0, o, none⟩) len len, .int .u64 (n : Int), .int .i64 (k : Int)]) { heap := PT.leaf.set 0 (some (.row cs 1 false)), next := 1, glob := 0 } .ret a' T ∧
      xres Tryd.prog Tryd.f48 a' T = some (.slice (some ⟨2 * k, 0, none⟩) (len + k) (len + k)) ∧ T.heap.get (2 * k) = some (.row ((cs.drop o).take len ++ leB n k) 1 false) ∧ T.next = 1 + 2 * k ∧ T.glob = 0 := by
  have hA : ((cs.drop o).take (len * 1)).length = len := by rw [Nat.mul_one, List.length_take, List.length_drop]; omega
  have hA1 : ((cs.drop o).take (len * 1)).all one = true := ones_bytes (take_bytes hb _ _)
  have hA2 : (cs.drop o).take len = (cs.drop o).take (len * 1) := by rw [Nat.mul_one]
  rw [hA2]
  generalize hL : (cs.drop o).take (len * 1) = A at *
  rcases hk with rfl | rfl | rfl
  · have h := put2 n o len len cs
    rw [hL] at h
    simp (disch := (simp [hA]; try omega)) only [cellOf, takeAll] at h
    refine ⟨_, _, Runs.path yx0 h ?_, by kernel_rfl, ?_, rfl, rfl⟩
    · simp only [Bool.and_true, Bool.and_eq_true, List.all_append, List.all_cons, List.all_nil, hA1, oneInt, List.length_append, List.length_cons, List.length_nil, hA, decide_eq_true_eq, Bool.not_eq_true', decide_eq_false_iff_not, and_true, true_and]
      omega
    · refine Eq.trans (b := some _) rfl ?_
      simp only [fdivN, wrapU8, leB, List.append_assoc, List.cons_append, List.nil_append]
  · have h := put4 n o len len cs
    rw [hL] at h
    simp (disch := (simp [hA]; try omega)) only [cellOf, takeAll] at h
    refine ⟨_, _, Runs.path yx0 h ?_, by kernel_rfl, ?_, rfl, rfl⟩
    · simp only [Bool.and_true, Bool.and_eq_true, List.all_append, List.all_cons, List.all_nil, hA1, oneInt, List.length_append, List.length_cons, List.length_nil, hA, decide_eq_true_eq, Bool.not_eq_true', decide_eq_false_iff_not, and_true, true_and]
      omega
    · refine Eq.trans (b := some _) rfl ?_
      simp only [fdivN, wrapU8, leB, List.append_assoc, List.cons_append, List.nil_append]
  · have h := put8 n o len len cs
    rw [hL] at h
    simp (disch := (simp [hA]; try omega)) only [cellOf, takeAll] at h
    refine ⟨_, _, Runs.path yx0 h ?_, by kernel_rfl, ?_, rfl, rfl⟩
    · simp only [Bool.and_true, Bool.and_eq_true, List.all_append, List.all_cons, List.all_nil, hA1, oneInt, List.length_append, List.length_cons, List.length_nil, hA, decide_eq_true_eq, Bool.not_eq_true', decide_eq_false_iff_not, and_true, true_and]
      omega
    · refine Eq.trans (b := some _) rfl ?_
      simp only [fdivN, wrapU8, leB, List.append_assoc, List.cons_append, List.nil_append]

theorem putF_sound (args : List Value) (S : St) (v : Value) (S' : St) (hx : putF args S = some (true, (v, S'))) (α : Place) (w : World) (args' : Array Value) (h : Rel α S w) (ha : LRel α args args'.toList) :
    Calls Tryd.prog 48 args' w fun e w' => ∃ β v', e = .returned v' ∧ Next α S w β S' w' ∧ VRel β v v' := by
  unfold putF at hx
  split at hx
  · rename_i b o len cap n k
    split at hx
    · rename_i cs hb
      simp only [Y.req_is, Y.pure_is, decide_eq_true_eq, Prod.mk.injEq] at hx
      obtain ⟨rfl, h2, h3, h4, h5, h6, rfl, rfl⟩ := hx
      obtain ⟨m, rfl⟩ : ∃ m : Nat, n = (m : Int) := ⟨n.toNat, by omega⟩
      obtain ⟨j, rfl⟩ : ∃ j : Nat, k = (j : Int) := ⟨k.toNat, by omega⟩
      simp only [Int.toNat_natCast] at *
      have hj : j = 2 ∨ j = 4 ∨ j = 8 := by omega
      refine one_move (k := 2 * j) (K := 2 * j) (v := .slice (some ⟨2 * j, 0, none⟩) (len + j) (len + j)) (by omega) (by omega) h hb (fun π => .plain (ints_plain (bytes_ints h5)))
        (fun π => .plain (ints_plain (bytes_ints (by rw [List.all_append, take_bytes h5, leB_bytes]; rfl)))) rfl ?_ (fun hr => ?_)
      · have := RenV.slice (π := pi1 b S) (2 * j) 0 (len + j) (len + j)
        rw [show pi1 b S (2 * j) = S.next + (2 * j - 1) by unfold pi1; rw [if_neg (by omega)]] at this
        exact this
      obtain ⟨a', T, hrun, hres, g1, g2, g3⟩ := put_runs (n := m) j hj h2 h4 h5
      have hl : LRel (fun i => α (pi1 b S i)) [.slice (some ⟨0, o, none⟩) len len, .int .u64 (m : Int), .int .i64 (j : Int)] args'.toList :=
        (RenL.lrel (π := pi1 b S) (.cons (.slice 0 o len len) (.cons (.int _ _) (.cons (.int _ _) .nil))) α _).2 (by simpa [pi1] using ha)
      refine (Runs.calls mixed okN_ok call0 Tryd.func48 body48 (okN_good 48 _ _ rfl Tryd.func48 body48) hrun (.inr rfl) hres hr hl).mono ?_
      rintro x w' ⟨β, v', rfl, hn, hv⟩
      refine ⟨β, v', rfl, hn.same (fun i e hi => ?_) (by simpa using g2.symm) (by simpa using g3.symm), hv⟩
      rw [PT.get_set] at hi
      split at hi
      · rename_i hik; cases hi; subst hik; exact g1
      · simp [PT.get] at hi
    · cases hx
  · cases hx
end Go.Xe
/-
  Paths of marked and image (printed by walk.py).
-/
set_option linter.unusedVariables false
namespace Go.Xe
open Go Go.Proofs
def orc2 : Orc := fun f => if f = 34 then some getF else if f = 37 then some sumF else if f = 48 then some putF else if f = 18 then some readFn else none
noncomputable def yc2 : YCall := ygo Tryd.prog okN orc2 kp 100

theorem markedP (n len cap : Nat) (cs : List Value) (ro : Bool) : ycode Tryd.prog okN yc2 (kp 17) 100 (.seq (sub (codeOf Tryd.prog 17) [0]) (sub (codeOf Tryd.prog 17) [1,0])) (startX Tryd.f17 [.slice (some ⟨0, 0, none⟩) len cap, .int .i64 (n : Int)]) { heap := PT.leaf.set 0 (some (.row cs 1 ro)), next := 1, glob := 0 } [] = some (decide (0 ≤ IntKind.wrap IntKind.i64 ((↑n : Int) + 12)) && (decide (IntKind.wrap IntKind.i64 ((↑n : Int) + 12) ≤ (↑cap : Int)) && true) && (decide (0 ≤ IntKind.wrap IntKind.i64 ((↑n : Int) + 4)) && (decide (IntKind.wrap IntKind.i64 ((↑n : Int) + 4) ≤ (↑(Int.toNat (IntKind.wrap IntKind.i64 ((↑n : Int) + 12))) : Int)) && true) && true) && true && true && true && (decide (Int.toNat (IntKind.wrap IntKind.i64 ((↑n : Int) + 12)) - Int.toNat (IntKind.wrap IntKind.i64 ((↑n : Int) + 4)) < 576460752303423488) && (decide (0 + Int.toNat (IntKind.wrap IntKind.i64 ((↑n : Int) + 4)) * 1 + (Int.toNat (IntKind.wrap IntKind.i64 ((↑n : Int) + 12)) - Int.toNat (IntKind.wrap IntKind.i64 ((↑n : Int) + 4))) ≤ List.length cs) && (List.all cs (isInt IntKind.u8) && true)) && true && true) && true, ((XE.normal, [some (Value.slice (some { block := 0, off := 0 : Addr }) len cap), some (Value.int IntKind.i64 (↑n : Int)), none, none, none, some (Value.int IntKind.u64 (getFrom 0 0 (List.take (Int.toNat (IntKind.wrap IntKind.i64 ((↑n : Int) + 12)) - Int.toNat (IntKind.wrap IntKind.i64 ((↑n : Int) + 4))) (List.drop (0 + Int.toNat (IntKind.wrap IntKind.i64 ((↑n : Int) + 4)) * 1) cs)))), none, none, none, none, none, none, none, none, none, none, none, none, none, none, none, none, none, none], { heap := PT.node PT.leaf (some (Ent.row cs 1 ro)) PT.leaf, next := 1, glob := 0 : St }), [])) := by kernel_rfl
theorem marked0 (m n len cap : Nat) (cs : List Value) (ro : Bool) : ycode Tryd.prog okN yc2 (kp 17) 100 (sub (codeOf Tryd.prog 17) [1,1,0]) [some (Value.slice (some { block := 0, off := 0 : Addr }) len cap), some (Value.int IntKind.i64 (↑n : Int)), none, none, none, some (.int .u64 (m : Int)), none, none, none, none, none, none, none, none, none, none, none, none, none, none, none, none, none, none] { heap := PT.leaf.set 0 (some (.row cs 1 ro)), next := 1, glob := 0 } [false, true, true, true] = some (decide (0 ≤ IntKind.wrap IntKind.i64 ((↑n : Int) + 20)) && (decide (IntKind.wrap IntKind.i64 ((↑n : Int) + 20) ≤ (↑cap : Int)) && true) && (decide (0 ≤ (↑n : Int)) && (decide ((↑n : Int) ≤ (↑(Int.toNat (IntKind.wrap IntKind.i64 ((↑n : Int) + 20))) : Int)) && true) && true) && true && true && true && (decide (0 ≤ (↑m : Int)) && true && true && true && true && (List.all (List.take 4 (List.drop 0 (splice (splice (splice (splice (zerosL [Value.int IntKind.u8 0] 4) 0 [Value.int IntKind.u8 109]) 1 [Value.int IntKind.u8 97]) 2 [Value.int IntKind.u8 114]) 3 [Value.int IntKind.u8 107])) ++ leB m 8) isByte && true && true && true && true && true) && true && true && (!!decide ((↑(Int.toNat (IntKind.wrap IntKind.i64 ((↑n : Int) + 20)) - n) : Int) = 20) && true && (decide (0 < (↑(Int.toNat (IntKind.wrap IntKind.i64 ((↑n : Int) + 20)) - n) : Int)) && true && (decide (0 < (↑(Int.toNat (IntKind.wrap IntKind.i64 ((↑n : Int) + 20)) - n) : Int)) && true && true && true && (decide (0 + n * 1 + 0 < List.length cs) && true && (isInt IntKind.u8 (List.getD cs (0 + n * 1 + 0) undefX) && true) && true && true && true) && true && true && (!decide (intOf (List.getD cs (0 + n * 1 + 0) undefX) = 109) && true) && true && true) && true && true && true) && true && true && true)) && (same (Value.slice (some { block := 0, off := 0 : Addr }) len cap) (Value.slice (some { block := 0, off := 0 : Addr }) len cap) && (same (Value.slice (some { block := 0, off := 0 : Addr }) len cap) (Value.slice (some { block := 0, off := 0 : Addr }) len cap) && true) && (same (Value.int IntKind.i64 (↑n : Int)) (Value.int IntKind.i64 (↑n : Int)) && (same (Value.int IntKind.i64 (↑n : Int)) (Value.int IntKind.i64 (↑n : Int)) && true) && (same (Value.int IntKind.i64 (↑n : Int)) (Value.int IntKind.i64 (↑n : Int)) && (same (Value.int IntKind.i64 (↑n : Int)) (Value.int IntKind.i64 (↑n : Int)) && true) && (same (Value.int IntKind.i64 (IntKind.wrap IntKind.i64 ((↑n : Int) + 20))) (Value.int IntKind.i64 (IntKind.wrap IntKind.i64 ((↑n : Int) + 20))) && (same (Value.int IntKind.i64 (IntKind.wrap IntKind.i64 ((↑n : Int) + 20))) (Value.int IntKind.i64 (IntKind.wrap IntKind.i64 ((↑n : Int) + 20))) && true) && (decide (0 ≤ IntKind.wrap IntKind.i64 ((↑n : Int) + 20)) && (decide (IntKind.wrap IntKind.i64 ((↑n : Int) + 20) ≤ (↑cap : Int)) && true) && (decide (0 ≤ (↑n : Int)) && (decide ((↑n : Int) ≤ (↑(Int.toNat (IntKind.wrap IntKind.i64 ((↑n : Int) + 20))) : Int)) && true) && true) && true && true && (same (Value.slice (some { block := 0, off := 0 + n * 1 : Addr }) (Int.toNat (IntKind.wrap IntKind.i64 ((↑n : Int) + 20)) - n) (cap - n)) (Value.slice (some { block := 0, off := 0 + n * 1 : Addr }) (Int.toNat (IntKind.wrap IntKind.i64 ((↑n : Int) + 20)) - n) (cap - n)) && (decide (0 ≤ IntKind.wrap IntKind.i64 ((↑n : Int) + 20)) && (decide (IntKind.wrap IntKind.i64 ((↑n : Int) + 20) ≤ (↑cap : Int)) && true) && (decide (0 ≤ (↑n : Int)) && (decide ((↑n : Int) ≤ (↑(Int.toNat (IntKind.wrap IntKind.i64 ((↑n : Int) + 20))) : Int)) && true) && true) && true && true && (same (Value.slice (some { block := 0, off := 0 + n * 1 : Addr }) (Int.toNat (IntKind.wrap IntKind.i64 ((↑n : Int) + 20)) - n) (cap - n)) (Value.slice (some { block := 0, off := 0 + n * 1 : Addr }) (Int.toNat (IntKind.wrap IntKind.i64 ((↑n : Int) + 20)) - n) (cap - n)) && true))) && (same (Value.int IntKind.i64 (↑n : Int)) (Value.int IntKind.i64 (↑n : Int)) && true && (same (Value.int IntKind.u64 (↑m : Int)) (Value.int IntKind.u64 (↑m : Int)) && true && true)))))) && true) && true && true, ((XE.ret, [none, none, none, none, some (Value.int IntKind.u64 0), none, none, none, none, none, none, none, none, none, none, none, none, none, none, none, none, none, none, none], { heap := PT.node (PT.node (PT.node PT.leaf none (PT.node PT.leaf none (PT.node (PT.node PT.leaf (some (Ent.row (List.take 12 (List.drop 0 (List.take 4 (List.drop 0 (splice (splice (splice (splice (zerosL [Value.int IntKind.u8 0] 4) 0 [Value.int IntKind.u8 109]) 1 [Value.int IntKind.u8 97]) 2 [Value.int IntKind.u8 114]) 3 [Value.int IntKind.u8 107])) ++ leB m 8)) ++ leB (Int.toNat (sumFrom (sumSeed (↑n : Int)) (List.take 12 (List.drop 0 (List.take 4 (List.drop 0 (splice (splice (splice (splice (zerosL [Value.int IntKind.u8 0] 4) 0 [Value.int IntKind.u8 109]) 1 [Value.int IntKind.u8 97]) 2 [Value.int IntKind.u8 114]) 3 [Value.int IntKind.u8 107])) ++ leB m 8))))) 8) 1 false)) PT.leaf) none PT.leaf))) none PT.leaf) (some (Ent.row cs 1 ro)) PT.leaf, next := 53, glob := 0 : St }), [])) := by kernel_rfl
theorem marked1 (m n len cap : Nat) (cs : List Value) (ro : Bool) : ycode Tryd.prog okN yc2 (kp 17) 100 (sub (codeOf Tryd.prog 17) [1,1,0]) [some (Value.slice (some { block := 0, off := 0 : Addr }) len cap), some (Value.int IntKind.i64 (↑n : Int)), none, none, none, some (.int .u64 (m : Int)), none, none, none, none, none, none, none, none, none, none, none, none, none, none, none, none, none, none] { heap := PT.leaf.set 0 (some (.row cs 1 ro)), next := 1, glob := 0 } [false, true, false, true, true, true] = some (decide (0 ≤ IntKind.wrap IntKind.i64 ((↑n : Int) + 20)) && (decide (IntKind.wrap IntKind.i64 ((↑n : Int) + 20) ≤ (↑cap : Int)) && true) && (decide (0 ≤ (↑n : Int)) && (decide ((↑n : Int) ≤ (↑(Int.toNat (IntKind.wrap IntKind.i64 ((↑n : Int) + 20))) : Int)) && true) && true) && true && true && true && (decide (0 ≤ (↑m : Int)) && true && true && true && true && (List.all (List.take 4 (List.drop 0 (splice (splice (splice (splice (zerosL [Value.int IntKind.u8 0] 4) 0 [Value.int IntKind.u8 109]) 1 [Value.int IntKind.u8 97]) 2 [Value.int IntKind.u8 114]) 3 [Value.int IntKind.u8 107])) ++ leB m 8) isByte && true && true && true && true && true) && true && true && (!!decide ((↑(Int.toNat (IntKind.wrap IntKind.i64 ((↑n : Int) + 20)) - n) : Int) = 20) && true && (decide (0 < (↑(Int.toNat (IntKind.wrap IntKind.i64 ((↑n : Int) + 20)) - n) : Int)) && true && (decide (0 < (↑(Int.toNat (IntKind.wrap IntKind.i64 ((↑n : Int) + 20)) - n) : Int)) && true && true && true && (decide (0 + n * 1 + 0 < List.length cs) && true && (isInt IntKind.u8 (List.getD cs (0 + n * 1 + 0) undefX) && true) && true && true && true) && true && true && (!!decide (intOf (List.getD cs (0 + n * 1 + 0) undefX) = 109) && true) && true && true) && (decide (1 < (↑(Int.toNat (IntKind.wrap IntKind.i64 ((↑n : Int) + 20)) - n) : Int)) && true && (decide (1 < (↑(Int.toNat (IntKind.wrap IntKind.i64 ((↑n : Int) + 20)) - n) : Int)) && true && true && true && (decide (0 + n * 1 + 1 < List.length cs) && true && (isInt IntKind.u8 (List.getD cs (0 + n * 1 + 1) undefX) && true) && true && true && true) && true && true && (!decide (intOf (List.getD cs (0 + n * 1 + 1) undefX) = 97) && true) && true && true) && true) && true && true) && true && true && true)) && (same (Value.slice (some { block := 0, off := 0 : Addr }) len cap) (Value.slice (some { block := 0, off := 0 : Addr }) len cap) && (same (Value.slice (some { block := 0, off := 0 : Addr }) len cap) (Value.slice (some { block := 0, off := 0 : Addr }) len cap) && true) && (same (Value.int IntKind.i64 (↑n : Int)) (Value.int IntKind.i64 (↑n : Int)) && (same (Value.int IntKind.i64 (↑n : Int)) (Value.int IntKind.i64 (↑n : Int)) && true) && (same (Value.int IntKind.i64 (↑n : Int)) (Value.int IntKind.i64 (↑n : Int)) && (same (Value.int IntKind.i64 (↑n : Int)) (Value.int IntKind.i64 (↑n : Int)) && true) && (same (Value.int IntKind.i64 (IntKind.wrap IntKind.i64 ((↑n : Int) + 20))) (Value.int IntKind.i64 (IntKind.wrap IntKind.i64 ((↑n : Int) + 20))) && (same (Value.int IntKind.i64 (IntKind.wrap IntKind.i64 ((↑n : Int) + 20))) (Value.int IntKind.i64 (IntKind.wrap IntKind.i64 ((↑n : Int) + 20))) && true) && (decide (0 ≤ IntKind.wrap IntKind.i64 ((↑n : Int) + 20)) && (decide (IntKind.wrap IntKind.i64 ((↑n : Int) + 20) ≤ (↑cap : Int)) && true) && (decide (0 ≤ (↑n : Int)) && (decide ((↑n : Int) ≤ (↑(Int.toNat (IntKind.wrap IntKind.i64 ((↑n : Int) + 20))) : Int)) && true) && true) && true && true && (same (Value.slice (some { block := 0, off := 0 + n * 1 : Addr }) (Int.toNat (IntKind.wrap IntKind.i64 ((↑n : Int) + 20)) - n) (cap - n)) (Value.slice (some { block := 0, off := 0 + n * 1 : Addr }) (Int.toNat (IntKind.wrap IntKind.i64 ((↑n : Int) + 20)) - n) (cap - n)) && (decide (0 ≤ IntKind.wrap IntKind.i64 ((↑n : Int) + 20)) && (decide (IntKind.wrap IntKind.i64 ((↑n : Int) + 20) ≤ (↑cap : Int)) && true) && (decide (0 ≤ (↑n : Int)) && (decide ((↑n : Int) ≤ (↑(Int.toNat (IntKind.wrap IntKind.i64 ((↑n : Int) + 20))) : Int)) && true) && true) && true && true && (same (Value.slice (some { block := 0, off := 0 + n * 1 : Addr }) (Int.toNat (IntKind.wrap IntKind.i64 ((↑n : Int) + 20)) - n) (cap - n)) (Value.slice (some { block := 0, off := 0 + n * 1 : Addr }) (Int.toNat (IntKind.wrap IntKind.i64 ((↑n : Int) + 20)) - n) (cap - n)) && true))) && (same (Value.int IntKind.i64 (↑n : Int)) (Value.int IntKind.i64 (↑n : Int)) && true && (same (Value.int IntKind.u64 (↑m : Int)) (Value.int IntKind.u64 (↑m : Int)) && true && true)))))) && true) && true && true, ((XE.ret, [none, none, none, none, some (Value.int IntKind.u64 0), none, none, none, none, none, none, none, none, none, none, none, none, none, none, none, none, none, none, none], { heap := PT.node (PT.node (PT.node PT.leaf none (PT.node PT.leaf none (PT.node (PT.node PT.leaf (some (Ent.row (List.take 12 (List.drop 0 (List.take 4 (List.drop 0 (splice (splice (splice (splice (zerosL [Value.int IntKind.u8 0] 4) 0 [Value.int IntKind.u8 109]) 1 [Value.int IntKind.u8 97]) 2 [Value.int IntKind.u8 114]) 3 [Value.int IntKind.u8 107])) ++ leB m 8)) ++ leB (Int.toNat (sumFrom (sumSeed (↑n : Int)) (List.take 12 (List.drop 0 (List.take 4 (List.drop 0 (splice (splice (splice (splice (zerosL [Value.int IntKind.u8 0] 4) 0 [Value.int IntKind.u8 109]) 1 [Value.int IntKind.u8 97]) 2 [Value.int IntKind.u8 114]) 3 [Value.int IntKind.u8 107])) ++ leB m 8))))) 8) 1 false)) PT.leaf) none PT.leaf))) none PT.leaf) (some (Ent.row cs 1 ro)) PT.leaf, next := 62, glob := 0 : St }), [])) := by kernel_rfl
theorem marked2 (m n len cap : Nat) (cs : List Value) (ro : Bool) : ycode Tryd.prog okN yc2 (kp 17) 100 (sub (codeOf Tryd.prog 17) [1,1,0]) [some (Value.slice (some { block := 0, off := 0 : Addr }) len cap), some (Value.int IntKind.i64 (↑n : Int)), none, none, none, some (.int .u64 (m : Int)), none, none, none, none, none, none, none, none, none, none, none, none, none, none, none, none, none, none] { heap := PT.leaf.set 0 (some (.row cs 1 ro)), next := 1, glob := 0 } [false, true, false, true, false, true, true, true] = some (decide (0 ≤ IntKind.wrap IntKind.i64 ((↑n : Int) + 20)) && (decide (IntKind.wrap IntKind.i64 ((↑n : Int) + 20) ≤ (↑cap : Int)) && true) && (decide (0 ≤ (↑n : Int)) && (decide ((↑n : Int) ≤ (↑(Int.toNat (IntKind.wrap IntKind.i64 ((↑n : Int) + 20))) : Int)) && true) && true) && true && true && true && (decide (0 ≤ (↑m : Int)) && true && true && true && true && (List.all (List.take 4 (List.drop 0 (splice (splice (splice (splice (zerosL [Value.int IntKind.u8 0] 4) 0 [Value.int IntKind.u8 109]) 1 [Value.int IntKind.u8 97]) 2 [Value.int IntKind.u8 114]) 3 [Value.int IntKind.u8 107])) ++ leB m 8) isByte && true && true && true && true && true) && true && true && (!!decide ((↑(Int.toNat (IntKind.wrap IntKind.i64 ((↑n : Int) + 20)) - n) : Int) = 20) && true && (decide (0 < (↑(Int.toNat (IntKind.wrap IntKind.i64 ((↑n : Int) + 20)) - n) : Int)) && true && (decide (0 < (↑(Int.toNat (IntKind.wrap IntKind.i64 ((↑n : Int) + 20)) - n) : Int)) && true && true && true && (decide (0 + n * 1 + 0 < List.length cs) && true && (isInt IntKind.u8 (List.getD cs (0 + n * 1 + 0) undefX) && true) && true && true && true) && true && true && (!!decide (intOf (List.getD cs (0 + n * 1 + 0) undefX) = 109) && true) && true && true) && (decide (1 < (↑(Int.toNat (IntKind.wrap IntKind.i64 ((↑n : Int) + 20)) - n) : Int)) && true && (decide (1 < (↑(Int.toNat (IntKind.wrap IntKind.i64 ((↑n : Int) + 20)) - n) : Int)) && true && true && true && (decide (0 + n * 1 + 1 < List.length cs) && true && (isInt IntKind.u8 (List.getD cs (0 + n * 1 + 1) undefX) && true) && true && true && true) && true && true && (!!decide (intOf (List.getD cs (0 + n * 1 + 1) undefX) = 97) && true) && true && true) && (decide (2 < (↑(Int.toNat (IntKind.wrap IntKind.i64 ((↑n : Int) + 20)) - n) : Int)) && true && (decide (2 < (↑(Int.toNat (IntKind.wrap IntKind.i64 ((↑n : Int) + 20)) - n) : Int)) && true && true && true && (decide (0 + n * 1 + 2 < List.length cs) && true && (isInt IntKind.u8 (List.getD cs (0 + n * 1 + 2) undefX) && true) && true && true && true) && true && true && (!decide (intOf (List.getD cs (0 + n * 1 + 2) undefX) = 114) && true) && true && true) && true)) && true && true) && true && true && true)) && (same (Value.slice (some { block := 0, off := 0 : Addr }) len cap) (Value.slice (some { block := 0, off := 0 : Addr }) len cap) && (same (Value.slice (some { block := 0, off := 0 : Addr }) len cap) (Value.slice (some { block := 0, off := 0 : Addr }) len cap) && true) && (same (Value.int IntKind.i64 (↑n : Int)) (Value.int IntKind.i64 (↑n : Int)) && (same (Value.int IntKind.i64 (↑n : Int)) (Value.int IntKind.i64 (↑n : Int)) && true) && (same (Value.int IntKind.i64 (↑n : Int)) (Value.int IntKind.i64 (↑n : Int)) && (same (Value.int IntKind.i64 (↑n : Int)) (Value.int IntKind.i64 (↑n : Int)) && true) && (same (Value.int IntKind.i64 (IntKind.wrap IntKind.i64 ((↑n : Int) + 20))) (Value.int IntKind.i64 (IntKind.wrap IntKind.i64 ((↑n : Int) + 20))) && (same (Value.int IntKind.i64 (IntKind.wrap IntKind.i64 ((↑n : Int) + 20))) (Value.int IntKind.i64 (IntKind.wrap IntKind.i64 ((↑n : Int) + 20))) && true) && (decide (0 ≤ IntKind.wrap IntKind.i64 ((↑n : Int) + 20)) && (decide (IntKind.wrap IntKind.i64 ((↑n : Int) + 20) ≤ (↑cap : Int)) && true) && (decide (0 ≤ (↑n : Int)) && (decide ((↑n : Int) ≤ (↑(Int.toNat (IntKind.wrap IntKind.i64 ((↑n : Int) + 20))) : Int)) && true) && true) && true && true && (same (Value.slice (some { block := 0, off := 0 + n * 1 : Addr }) (Int.toNat (IntKind.wrap IntKind.i64 ((↑n : Int) + 20)) - n) (cap - n)) (Value.slice (some { block := 0, off := 0 + n * 1 : Addr }) (Int.toNat (IntKind.wrap IntKind.i64 ((↑n : Int) + 20)) - n) (cap - n)) && (decide (0 ≤ IntKind.wrap IntKind.i64 ((↑n : Int) + 20)) && (decide (IntKind.wrap IntKind.i64 ((↑n : Int) + 20) ≤ (↑cap : Int)) && true) && (decide (0 ≤ (↑n : Int)) && (decide ((↑n : Int) ≤ (↑(Int.toNat (IntKind.wrap IntKind.i64 ((↑n : Int) + 20))) : Int)) && true) && true) && true && true && (same (Value.slice (some { block := 0, off := 0 + n * 1 : Addr }) (Int.toNat (IntKind.wrap IntKind.i64 ((↑n : Int) + 20)) - n) (cap - n)) (Value.slice (some { block := 0, off := 0 + n * 1 : Addr }) (Int.toNat (IntKind.wrap IntKind.i64 ((↑n : Int) + 20)) - n) (cap - n)) && true))) && (same (Value.int IntKind.i64 (↑n : Int)) (Value.int IntKind.i64 (↑n : Int)) && true && (same (Value.int IntKind.u64 (↑m : Int)) (Value.int IntKind.u64 (↑m : Int)) && true && true)))))) && true) && true && true, ((XE.ret, [none, none, none, none, some (Value.int IntKind.u64 0), none, none, none, none, none, none, none, none, none, none, none, none, none, none, none, none, none, none, none], { heap := PT.node (PT.node (PT.node PT.leaf none (PT.node PT.leaf none (PT.node (PT.node PT.leaf (some (Ent.row (List.take 12 (List.drop 0 (List.take 4 (List.drop 0 (splice (splice (splice (splice (zerosL [Value.int IntKind.u8 0] 4) 0 [Value.int IntKind.u8 109]) 1 [Value.int IntKind.u8 97]) 2 [Value.int IntKind.u8 114]) 3 [Value.int IntKind.u8 107])) ++ leB m 8)) ++ leB (Int.toNat (sumFrom (sumSeed (↑n : Int)) (List.take 12 (List.drop 0 (List.take 4 (List.drop 0 (splice (splice (splice (splice (zerosL [Value.int IntKind.u8 0] 4) 0 [Value.int IntKind.u8 109]) 1 [Value.int IntKind.u8 97]) 2 [Value.int IntKind.u8 114]) 3 [Value.int IntKind.u8 107])) ++ leB m 8))))) 8) 1 false)) PT.leaf) none PT.leaf))) none PT.leaf) (some (Ent.row cs 1 ro)) PT.leaf, next := 71, glob := 0 : St }), [])) := by kernel_rfl
theorem marked3 (m n len cap : Nat) (cs : List Value) (ro : Bool) : ycode Tryd.prog okN yc2 (kp 17) 100 (sub (codeOf Tryd.prog 17) [1,1,0]) [some (Value.slice (some { block := 0, off := 0 : Addr }) len cap), some (Value.int IntKind.i64 (↑n : Int)), none, none, none, some (.int .u64 (m : Int)), none, none, none, none, none, none, none, none, none, none, none, none, none, none, none, none, none, none] { heap := PT.leaf.set 0 (some (.row cs 1 ro)), next := 1, glob := 0 } [false, true, false, true, false, true, false, true, true, true] = some (decide (0 ≤ IntKind.wrap IntKind.i64 ((↑n : Int) + 20)) && (decide (IntKind.wrap IntKind.i64 ((↑n : Int) + 20) ≤ (↑cap : Int)) && true) && (decide (0 ≤ (↑n : Int)) && (decide ((↑n : Int) ≤ (↑(Int.toNat (IntKind.wrap IntKind.i64 ((↑n : Int) + 20))) : Int)) && true) && true) && true && true && true && (decide (0 ≤ (↑m : Int)) && true && true && true && true && (List.all (List.take 4 (List.drop 0 (splice (splice (splice (splice (zerosL [Value.int IntKind.u8 0] 4) 0 [Value.int IntKind.u8 109]) 1 [Value.int IntKind.u8 97]) 2 [Value.int IntKind.u8 114]) 3 [Value.int IntKind.u8 107])) ++ leB m 8) isByte && true && true && true && true && true) && true && true && (!!decide ((↑(Int.toNat (IntKind.wrap IntKind.i64 ((↑n : Int) + 20)) - n) : Int) = 20) && true && (decide (0 < (↑(Int.toNat (IntKind.wrap IntKind.i64 ((↑n : Int) + 20)) - n) : Int)) && true && (decide (0 < (↑(Int.toNat (IntKind.wrap IntKind.i64 ((↑n : Int) + 20)) - n) : Int)) && true && true && true && (decide (0 + n * 1 + 0 < List.length cs) && true && (isInt IntKind.u8 (List.getD cs (0 + n * 1 + 0) undefX) && true) && true && true && true) && true && true && (!!decide (intOf (List.getD cs (0 + n * 1 + 0) undefX) = 109) && true) && true && true) && (decide (1 < (↑(Int.toNat (IntKind.wrap IntKind.i64 ((↑n : Int) + 20)) - n) : Int)) && true && (decide (1 < (↑(Int.toNat (IntKind.wrap IntKind.i64 ((↑n : Int) + 20)) - n) : Int)) && true && true && true && (decide (0 + n * 1 + 1 < List.length cs) && true && (isInt IntKind.u8 (List.getD cs (0 + n * 1 + 1) undefX) && true) && true && true && true) && true && true && (!!decide (intOf (List.getD cs (0 + n * 1 + 1) undefX) = 97) && true) && true && true) && (decide (2 < (↑(Int.toNat (IntKind.wrap IntKind.i64 ((↑n : Int) + 20)) - n) : Int)) && true && (decide (2 < (↑(Int.toNat (IntKind.wrap IntKind.i64 ((↑n : Int) + 20)) - n) : Int)) && true && true && true && (decide (0 + n * 1 + 2 < List.length cs) && true && (isInt IntKind.u8 (List.getD cs (0 + n * 1 + 2) undefX) && true) && true && true && true) && true && true && (!!decide (intOf (List.getD cs (0 + n * 1 + 2) undefX) = 114) && true) && true && true) && (decide (3 < (↑(Int.toNat (IntKind.wrap IntKind.i64 ((↑n : Int) + 20)) - n) : Int)) && true && (decide (3 < (↑(Int.toNat (IntKind.wrap IntKind.i64 ((↑n : Int) + 20)) - n) : Int)) && true && true && true && (decide (0 + n * 1 + 3 < List.length cs) && true && (isInt IntKind.u8 (List.getD cs (0 + n * 1 + 3) undefX) && true) && true && true && true) && true && true && (!decide (intOf (List.getD cs (0 + n * 1 + 3) undefX) = 107) && true) && true && true) && true))) && true && true) && true && true && true)) && (same (Value.slice (some { block := 0, off := 0 : Addr }) len cap) (Value.slice (some { block := 0, off := 0 : Addr }) len cap) && (same (Value.slice (some { block := 0, off := 0 : Addr }) len cap) (Value.slice (some { block := 0, off := 0 : Addr }) len cap) && true) && (same (Value.int IntKind.i64 (↑n : Int)) (Value.int IntKind.i64 (↑n : Int)) && (same (Value.int IntKind.i64 (↑n : Int)) (Value.int IntKind.i64 (↑n : Int)) && true) && (same (Value.int IntKind.i64 (↑n : Int)) (Value.int IntKind.i64 (↑n : Int)) && (same (Value.int IntKind.i64 (↑n : Int)) (Value.int IntKind.i64 (↑n : Int)) && true) && (same (Value.int IntKind.i64 (IntKind.wrap IntKind.i64 ((↑n : Int) + 20))) (Value.int IntKind.i64 (IntKind.wrap IntKind.i64 ((↑n : Int) + 20))) && (same (Value.int IntKind.i64 (IntKind.wrap IntKind.i64 ((↑n : Int) + 20))) (Value.int IntKind.i64 (IntKind.wrap IntKind.i64 ((↑n : Int) + 20))) && true) && (decide (0 ≤ IntKind.wrap IntKind.i64 ((↑n : Int) + 20)) && (decide (IntKind.wrap IntKind.i64 ((↑n : Int) + 20) ≤ (↑cap : Int)) && true) && (decide (0 ≤ (↑n : Int)) && (decide ((↑n : Int) ≤ (↑(Int.toNat (IntKind.wrap IntKind.i64 ((↑n : Int) + 20))) : Int)) && true) && true) && true && true && (same (Value.slice (some { block := 0, off := 0 + n * 1 : Addr }) (Int.toNat (IntKind.wrap IntKind.i64 ((↑n : Int) + 20)) - n) (cap - n)) (Value.slice (some { block := 0, off := 0 + n * 1 : Addr }) (Int.toNat (IntKind.wrap IntKind.i64 ((↑n : Int) + 20)) - n) (cap - n)) && (decide (0 ≤ IntKind.wrap IntKind.i64 ((↑n : Int) + 20)) && (decide (IntKind.wrap IntKind.i64 ((↑n : Int) + 20) ≤ (↑cap : Int)) && true) && (decide (0 ≤ (↑n : Int)) && (decide ((↑n : Int) ≤ (↑(Int.toNat (IntKind.wrap IntKind.i64 ((↑n : Int) + 20))) : Int)) && true) && true) && true && true && (same (Value.slice (some { block := 0, off := 0 + n * 1 : Addr }) (Int.toNat (IntKind.wrap IntKind.i64 ((↑n : Int) + 20)) - n) (cap - n)) (Value.slice (some { block := 0, off := 0 + n * 1 : Addr }) (Int.toNat (IntKind.wrap IntKind.i64 ((↑n : Int) + 20)) - n) (cap - n)) && true))) && (same (Value.int IntKind.i64 (↑n : Int)) (Value.int IntKind.i64 (↑n : Int)) && true && (same (Value.int IntKind.u64 (↑m : Int)) (Value.int IntKind.u64 (↑m : Int)) && true && true)))))) && true) && true && true, ((XE.ret, [none, none, none, none, some (Value.int IntKind.u64 0), none, none, none, none, none, none, none, none, none, none, none, none, none, none, none, none, none, none, none], { heap := PT.node (PT.node (PT.node PT.leaf none (PT.node PT.leaf none (PT.node (PT.node PT.leaf (some (Ent.row (List.take 12 (List.drop 0 (List.take 4 (List.drop 0 (splice (splice (splice (splice (zerosL [Value.int IntKind.u8 0] 4) 0 [Value.int IntKind.u8 109]) 1 [Value.int IntKind.u8 97]) 2 [Value.int IntKind.u8 114]) 3 [Value.int IntKind.u8 107])) ++ leB m 8)) ++ leB (Int.toNat (sumFrom (sumSeed (↑n : Int)) (List.take 12 (List.drop 0 (List.take 4 (List.drop 0 (splice (splice (splice (splice (zerosL [Value.int IntKind.u8 0] 4) 0 [Value.int IntKind.u8 109]) 1 [Value.int IntKind.u8 97]) 2 [Value.int IntKind.u8 114]) 3 [Value.int IntKind.u8 107])) ++ leB m 8))))) 8) 1 false)) PT.leaf) none PT.leaf))) none PT.leaf) (some (Ent.row cs 1 ro)) PT.leaf, next := 80, glob := 0 : St }), [])) := by kernel_rfl
end Go.Xe
/-
  marked (17), where there is no mark: a known function.
-/
set_option linter.unusedVariables false
set_option linter.unusedSimpArgs false
namespace Go.Xe
open Go Go.Proofs

theorem okOrc2 : OrcSound Tryd.prog orc2 := fun f F h => by
  unfold orc2 at h
  split at h
  · cases h; rename_i hf; subst hf; exact getF_sound
  · split at h
    · cases h; rename_i hf; subst hf; exact sumF_sound
    · split at h
      · cases h; rename_i hf; subst hf; exact putF_sound
      · split at h
        · cases h; rename_i hf; subst hf; exact readFn_sound
        · cases h
noncomputable abbrev xc2 : XCall := xgoO Tryd.prog okN orc2 kp 100
theorem yx2 : YX yc2 xc2 := ygo_is orc2 kp 100
theorem call2 : CallSound Tryd.prog xc2 := xgoO_sound mixed okN_ok okN_good okOrc2 kp 100
abbrev Run17 := Runs Tryd.prog okN xc2 (kp 17)
theorem code17 : codeOf Tryd.prog 17 = .seq (sub (codeOf Tryd.prog 17) [0]) (.seq (sub (codeOf Tryd.prog 17) [1,0]) (.seq (sub (codeOf Tryd.prog 17) [1,1,0]) (sub (codeOf Tryd.prog 17) [1,1,1]))) := by kernel_rfl
theorem body17 : Tryd.f17.body = some (codeOf Tryd.prog 17) := by kernel_rfl

theorem Runs.seq2 {P : Program} {okF : FuncId → Bool} {call : XCall} {fg : Nat → Option Nat} {x y z : Code} {a a1 a' : XAct} {S S1 S' : St} {e : XE} (h : Runs P okF call fg (.seq x y) a S .normal a1 S1) (h' : Runs P okF call fg z a1 S1 e a' S') : Runs P okF call fg (.seq x (.seq y z)) a S e a' S' := by
  obtain ⟨n, h⟩ := h
  cases n with
  | zero => simp [xcode] at h
  | succ n =>
    simp only [xcode] at h
    cases hx : xcode P okF call fg n x a S with
    | none => rw [hx] at h; cases h
    | some q =>
      obtain ⟨e0, a0, S0⟩ := q
      rw [hx] at h
      cases e0 with
      | normal => exact Runs.seq ⟨n, hx⟩ (Runs.seq ⟨n, h⟩ h')
      | exit i => simp [XOut.then] at h
      | ret => simp [XOut.then] at h

/-- there is no mark: one of its four first bytes is another -/
def noMark (cs : List Value) (n : Nat) : Bool :=
  !(decide (byteN cs n = 109) && decide (byteN cs (n + 1) = 97) && decide (byteN cs (n + 2) = 114) && decide (byteN cs (n + 3) = 107))

theorem marked_runs {n len cap : Nat} {cs : List Value} {ro : Bool} (hlen : len < 2 ^ 40) (hlc : len ≤ cap) (hn : n + 20 ≤ len) (hcs : len ≤ cs.length) (hb : cs.all isByte = true) (hm : noMark cs n = true) :
    ∃ a' T, Run17 (codeOf Tryd.prog 17) (startX Tryd.f17 [.slice (some ⟨0, 0, none⟩) len cap, .int .i64 (n : Int)]) (sumHeap cs ro) .ret a' T ∧
      xres Tryd.prog Tryd.f17 a' T = some (.int .u64 0) ∧ T.heap.get 0 = some (.row cs 1 ro) ∧ 1 ≤ T.next ∧ T.next ≤ 80 ∧ T.glob = 0 := by
  have hi : ∀ i, i < cs.length → isInt .u8 (cs.getD i undefX) = true := fun i hi => isByte_int (byte_at hb hi)
  have hall := bytes_ints hb
  have e4 : IntKind.wrap IntKind.i64 ((n : Int) + 4) = ((n + 4 : Nat) : Int) := wrapAdd (b := 4) (by omega)
  have e12 : IntKind.wrap IntKind.i64 ((n : Int) + 12) = ((n + 12 : Nat) : Int) := wrapAdd (b := 12) (by omega)
  have e20 : IntKind.wrap IntKind.i64 ((n : Int) + 20) = ((n + 20 : Nat) : Int) := wrapAdd (b := 20) (by omega)
  have h0 := Runs.path yx2 (markedP n len cap cs ro) (by
    rw [e4, e12]; simp only [true_and, and_true, hall, Bool.and_true, Bool.and_eq_true, decide_eq_true_eq, Int.toNat_natCast]; omega)
  have eM : getFrom 0 0 ((cs.drop (0 + (n + 4) * 1)).take (n + 12 - (n + 4))) = ((leN ((cs.drop (n + 4)).take 8) : Nat) : Int) := by
    rw [show n + 12 - (n + 4) = 8 by omega, show 0 + (n + 4) * 1 = n + 4 by omega]
    exact get_eq _ len_get (take_bytes hb _ _)
  rw [e4, e12, Int.toNat_natCast, Int.toNat_natCast, eM] at h0
  generalize leN ((cs.drop (n + 4)).take 8) = m at h0
  have hL : List.all (List.take 4 (List.drop 0 (splice (splice (splice (splice (zerosL [Value.int IntKind.u8 0] 4) 0 [Value.int IntKind.u8 109]) 1 [Value.int IntKind.u8 97]) 2 [Value.int IntKind.u8 114]) 3 [Value.int IntKind.u8 107])) ++ leB m 8) isByte = true := by
    rw [List.all_append, leB_bytes, Bool.and_true]; rfl
  have t0 := hi (0 + n * 1 + 0) (by omega)
  have t1 := hi (0 + n * 1 + 1) (by omega)
  have t2 := hi (0 + n * 1 + 2) (by omega)
  have t3 := hi (0 + n * 1 + 3) (by omega)
  have en : 0 + n * 1 = n := by omega
  rw [code17]
  unfold noMark byteN at hm
  by_cases c0 : intOf (cs.getD (0 + n * 1 + 0) undefX) = 109
  case neg =>
    refine ⟨_, _, Runs.seq2 h0 (Runs.seq_ret (Runs.path yx2 (marked0 m n len cap cs ro) ?_)), by kernel_rfl, rfl, Nat.le_of_ble_eq_true rfl, Nat.le_of_ble_eq_true rfl, rfl⟩
    rw [e20]
    simp only [true_and, and_true, Bool.not_not, Bool.not_false, Bool.not_true, same_int, same_slice, same_bool, same_ptr, t0, hL, decide_eq_false c0, Bool.and_true, Bool.and_eq_true, decide_eq_true_eq, Int.toNat_natCast]; omega
  by_cases c1 : intOf (cs.getD (0 + n * 1 + 1) undefX) = 97
  case neg =>
    refine ⟨_, _, Runs.seq2 h0 (Runs.seq_ret (Runs.path yx2 (marked1 m n len cap cs ro) ?_)), by kernel_rfl, rfl, Nat.le_of_ble_eq_true rfl, Nat.le_of_ble_eq_true rfl, rfl⟩
    rw [e20]
    simp only [true_and, and_true, Bool.not_not, Bool.not_false, Bool.not_true, same_int, same_slice, same_bool, same_ptr, t0, t1, hL, decide_eq_true c0, decide_eq_false c1, Bool.and_true, Bool.and_eq_true, decide_eq_true_eq, Int.toNat_natCast]; omega
  by_cases c2 : intOf (cs.getD (0 + n * 1 + 2) undefX) = 114
  case neg =>
    refine ⟨_, _, Runs.seq2 h0 (Runs.seq_ret (Runs.path yx2 (marked2 m n len cap cs ro) ?_)), by kernel_rfl, rfl, Nat.le_of_ble_eq_true rfl, Nat.le_of_ble_eq_true rfl, rfl⟩
    rw [e20]
    simp only [true_and, and_true, Bool.not_not, Bool.not_false, Bool.not_true, same_int, same_slice, same_bool, same_ptr, t0, t1, t2, hL, decide_eq_true c0, decide_eq_true c1, decide_eq_false c2, Bool.and_true, Bool.and_eq_true, decide_eq_true_eq, Int.toNat_natCast]; omega
  have c3 : ¬ intOf (cs.getD (0 + n * 1 + 3) undefX) = 107 := by
    rw [en] at c0 c1 c2 ⊢
    intro c3
    rw [decide_eq_true (show intOf (cs.getD n undefX) = 109 from c0), decide_eq_true c1, decide_eq_true c2, decide_eq_true c3] at hm
    cases hm
  refine ⟨_, _, Runs.seq2 h0 (Runs.seq_ret (Runs.path yx2 (marked3 m n len cap cs ro) ?_)), by kernel_rfl, rfl, Nat.le_of_ble_eq_true rfl, Nat.le_of_ble_eq_true rfl, rfl⟩
  rw [e20]
  simp only [true_and, and_true, Bool.not_not, Bool.not_false, Bool.not_true, same_int, same_slice, same_bool, same_ptr, t0, t1, t2, t3, hL, decide_eq_true c0, decide_eq_true c1, decide_eq_true c2, decide_eq_false c3, Bool.and_true, Bool.and_eq_true, decide_eq_true_eq, Int.toNat_natCast]; omega

def markedFn (args : List Value) (S : St) : Y (Value × St) :=
  match args with
  | [.slice (some ⟨b, 0, none⟩) len cap, .int .i64 at'] => match S.heap.get b with
    | some (.row cs 1 ro) => .req (decide (len < 1099511627776)) (.req (decide (len ≤ cap)) (.req (decide (0 ≤ at')) (.req (decide (at'.toNat + 20 ≤ len)) (.req (decide (len ≤ cs.length)) (.req (cs.all isByte) (.req (noMark cs at'.toNat)
        (.pure (.int .u64 0, { S with next := S.next + 79 }))))))))
    | _ => none
  | _ => none
theorem markedFn_sound (args : List Value) (S : St) (v : Value) (S' : St) (hx : markedFn args S = some (true, (v, S'))) (α : Place) (w : World) (args' : Array Value) (h : Rel α S w) (ha : LRel α args args'.toList) :
    Calls Tryd.prog 17 args' w fun e w' => ∃ β v', e = .returned v' ∧ Next α S w β S' w' ∧ VRel β v v' := by
  unfold markedFn at hx
  split at hx
  · rename_i b len cap at'
    split at hx
    · rename_i cs ro hb
      simp only [Y.req_is, Y.pure_is, decide_eq_true_eq, Prod.mk.injEq] at hx
      obtain ⟨h1, h2, h3, h4, h5, h6, h7, rfl, rfl⟩ := hx
      obtain ⟨n, rfl⟩ : ∃ n : Nat, at' = (n : Int) := ⟨at'.toNat, by omega⟩
      rw [Int.toNat_natCast] at *
      refine one_none h hb (fun π => .plain (ints_plain (bytes_ints h6))) (fun π => .int _ _) (fun hr => ?_)
      obtain ⟨a', T, hrun, hres, g1, g2, g3, g4⟩ := marked_runs (cap := cap) (ro := ro) (by omega) h2 h4 h5 h6 h7
      have hl : LRel (fun i => α (pi1 b S i)) [.slice (some ⟨0, 0, none⟩) len cap, .int .i64 (n : Int)] args'.toList :=
        (RenL.lrel (π := pi1 b S) (.cons (.slice 0 0 len cap) (.cons (.int _ _) .nil)) α _).2 (by simpa [pi1] using ha)
      refine (Runs.calls mixed okN_ok call2 Tryd.func17 body17 (okN_good 17 _ _ rfl Tryd.func17 body17) hrun (.inr rfl) hres hr hl).mono ?_
      rintro x w' ⟨β, v', rfl, hn, hv⟩
      refine ⟨β, v', rfl, ?_, hv⟩
      have := hn.widen (m := 80) g3
      refine this.same (fun i e hi => ?_) rfl (by simpa using g4.symm)
      obtain ⟨rfl, rfl⟩ := get1 hi
      exact g1
    · cases hx
  · cases hx
end Go.Xe
