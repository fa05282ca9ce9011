/-
  Numbers and their bytes, the lowest first.
-/
import Derived.Test.YtkhjbbigangbdaaDoorM08
set_option linter.unusedVariables false
namespace Go.Xe
open Go Go.Proofs

def isByte : Value → Bool
  | .int .u8 n => decide (0 ≤ n) && decide (n < 256)
  | _ => false
theorem isByte_int {v : Value} (h : isByte v = true) : isInt .u8 v = true := by
  unfold isByte at h
  split at h
  · simp [isInt]
  · cases h
theorem isByte_nat {v : Value} (h : isByte v = true) : ∃ n : Nat, n < 256 ∧ v = .int .u8 n := by
  unfold isByte at h
  split at h
  · rename_i n
    simp only [Bool.and_eq_true, decide_eq_true_eq] at h
    exact ⟨n.toNat, by omega, by rw [Int.toNat_of_nonneg h.1]⟩
  · cases h
theorem bytes_ints {l : List Value} (h : l.all isByte = true) : l.all (isInt .u8) = true := by
  rw [List.all_eq_true] at h ⊢
  exact fun v hv => isByte_int (h v hv)

theorem wrapU64 {n : Nat} (h : n < 2 ^ 64) : IntKind.wrap .u64 (n : Int) = n := by
  unfold IntKind.wrap
  have hb : IntKind.u64.bits = 64 := rfl
  have hs : IntKind.u64.signed = false := rfl
  rw [hb, hs]
  simp only [Bool.false_and, Bool.false_eq_true, if_false]
  exact Int.emod_eq_of_lt (Int.natCast_nonneg n) (by omega)
theorem wrapU8 {n : Nat} : IntKind.wrap .u8 (n : Int) = ((n % 256 : Nat) : Int) := by
  unfold IntKind.wrap
  have hb : IntKind.u8.bits = 8 := rfl
  have hs : IntKind.u8.signed = false := rfl
  rw [hb, hs]
  simp only [Bool.false_and, Bool.false_eq_true, if_false]
  rfl

theorem getStep_eq {hn bn i : Nat} (hi : i < 8) (hh : hn < 2 ^ (8 * i)) (hb : bn < 256) : getStep (hn : Int) i (bn : Int) = ((hn + 2 ^ (8 * i) * bn : Nat) : Int) := by
  have h0 : 2 ^ (8 * i) * 256 ≤ 2 ^ 64 := by
    have : 2 ^ (8 * i) * 2 ^ 8 = 2 ^ (8 * i + 8) := by rw [Nat.pow_add]
    have h2 : 2 ^ (8 * i + 8) ≤ 2 ^ 64 := Nat.pow_le_pow_right (by omega) (by omega)
    omega
  have h1 : 2 ^ (8 * i) * bn + 2 ^ (8 * i) ≤ 2 ^ 64 := by
    have h3 : 2 ^ (8 * i) * (bn + 1) ≤ 2 ^ (8 * i) * 256 := Nat.mul_le_mul_left _ (by omega)
    rw [Nat.mul_add, Nat.mul_one] at h3
    omega
  unfold getStep
  rw [Nat.min_eq_left (by omega), wrapU64 (n := bn) (by omega)]
  have e1 : (bn : Int) * 2 ^ (8 * i) = ((2 ^ (8 * i) * bn : Nat) : Int) := by
    rw [Int.mul_comm]; push_cast; rfl
  rw [e1, wrapU64 (n := 2 ^ (8 * i) * bn) (by omega), BitVec.ofInt_natCast, BitVec.ofInt_natCast, BitVec.toNat_or, BitVec.toNat_ofNat, BitVec.toNat_ofNat, Nat.mod_eq_of_lt (by omega), Nat.mod_eq_of_lt (by omega)]
  have e2 : hn ||| 2 ^ (8 * i) * bn = hn + 2 ^ (8 * i) * bn := by
    rw [Nat.or_comm, Nat.mul_comm, ← Nat.shiftLeft_eq, ← Nat.shiftLeft_add_eq_or_of_lt hh, Nat.add_comm]
  rw [e2]
  exact wrapU64 (by omega)

def leN : List Value → Nat
  | [] => 0
  | v :: r => (intOf v).toNat + 256 * leN r
theorem leN_lt : ∀ {l : List Value}, l.all isByte = true → leN l < 256 ^ l.length
  | [], _ => by simp [leN]
  | v :: r, h => by
    simp only [List.all_cons, Bool.and_eq_true] at h
    obtain ⟨n, hn, rfl⟩ := isByte_nat h.1
    have := leN_lt h.2
    simp only [leN, intOf, Int.toNat_natCast, List.length_cons, Nat.pow_succ]
    omega
theorem getFrom_eq : ∀ (l : List Value) (hn i : Nat), hn < 2 ^ (8 * i) → i + l.length ≤ 8 → l.all isByte = true → getFrom (hn : Int) i l = ((hn + 2 ^ (8 * i) * leN l : Nat) : Int)
  | [], hn, i, h1, h2, _ => by simp [getFrom, leN]
  | v :: r, hn, i, h1, h2, h3 => by
    simp only [List.all_cons, Bool.and_eq_true] at h3
    obtain ⟨n, hn', rfl⟩ := isByte_nat h3.1
    simp only [List.length_cons] at h2
    have hp : 2 ^ (8 * (i + 1)) = 2 ^ (8 * i) * 256 := by rw [Nat.mul_add, Nat.pow_add]
    have hlt : hn + 2 ^ (8 * i) * n < 2 ^ (8 * (i + 1)) := by
      have : 2 ^ (8 * i) * (n + 1) ≤ 2 ^ (8 * i) * 256 := Nat.mul_le_mul_left _ (by omega)
      rw [Nat.mul_add, Nat.mul_one] at this
      omega
    simp only [getFrom, intOf]
    rw [getStep_eq (by omega) h1 hn', getFrom_eq r _ _ hlt (by omega) h3.2, hp]
    congr 1
    simp only [leN, intOf, Int.toNat_natCast]
    rw [Nat.mul_add, Nat.mul_assoc]
    omega
theorem get_eq (l : List Value) (h : l.length ≤ 8) (hb : l.all isByte = true) : getFrom 0 0 l = (leN l : Int) := by
  have := getFrom_eq l 0 0 (by simp) (by omega) hb
  simpa using this

/-- a number's bytes -/
def leB : Nat → Nat → List Value
  | _, 0 => []
  | n, k + 1 => .int .u8 ((n % 256 : Nat) : Int) :: leB (n / 256) k
theorem leB_length : ∀ (k n : Nat), (leB n k).length = k
  | 0, n => rfl
  | k + 1, n => by simp [leB, leB_length k]
theorem leB_bytes : ∀ (k n : Nat), (leB n k).all isByte = true
  | 0, n => rfl
  | k + 1, n => by
    have : n % 256 < 256 := Nat.mod_lt _ (by omega)
    simp only [leB, List.all_cons, leB_bytes k, Bool.and_true, isByte, Bool.and_eq_true, decide_eq_true_eq]
    omega
theorem leN_leB : ∀ (k n : Nat), leN (leB n k) = n % 256 ^ k
  | 0, n => by simp [leB, leN, Nat.mod_one]
  | k + 1, n => by
    simp only [leB, leN, intOf, Int.toNat_natCast, leN_leB k]
    rw [Nat.pow_succ, Nat.mul_comm (256 ^ k) 256, Nat.mod_mul]
end Go.Xe
/-
  Functions that look at one block: with new blocks, that are kept or not.
-/
set_option linter.unusedVariables false
namespace Go.Xe
open Go Go.Proofs

section
variable {P : Program} {f : FuncId} {b : Nat} {e e2 : Ent} {α : Place} {S : St} {w : World} {v v2 : Value} {args' : Array Value} {k K : Nat}

theorem small1 (hb : S.heap.get b = some e) (he : ∀ π, RenE π e e) : ∀ i x, (PT.leaf.set 0 (some e)).get i = some x → i < 1 ∧ ∃ y, S.heap.get (pi1 b S i) = some y ∧ RenE (pi1 b S) x y := by
  intro i x hx
  obtain ⟨rfl, rfl⟩ := get1 hx
  exact ⟨by omega, x, by simpa [pi1] using hb, he _⟩

theorem one_none (h : Rel α S w) (hb : S.heap.get b = some e) (he : ∀ π, RenE π e e) (hv : ∀ π, RenV π v v)
    (hc : Rel (fun i => α (pi1 b S i)) { heap := PT.leaf.set 0 (some e), next := 1, glob := 0 } w →
      Calls P f args' w fun x w' => ∃ β v', x = .returned v' ∧ Next (fun i => α (pi1 b S i)) { heap := PT.leaf.set 0 (some e), next := 1, glob := 0 } w β { heap := PT.leaf.set 0 (some e), next := 1 + K, glob := 0 } w' ∧ VRel β v v') :
    Calls P f args' w fun x w' => ∃ β v', x = .returned v' ∧ Next α S w β { S with next := S.next + K } w' ∧ VRel β v v' := by
  have hlt := h.live_lt hb
  have hsm := small1 (S := S) hb he
  refine (hc (h.small (emb1 hlt) hsm)).mono ?_
  rintro x w' ⟨β, v', rfl, hn, hvr⟩
  obtain ⟨γ, hg, hβ⟩ := hn.large (S' := { S with next := S.next + K }) h (emb1 hlt) hsm (by simp) rfl (fun k y hk => by
    by_cases hkb : k = b
    · subst hkb
      have hk' : S.heap.get k = some y := hk
      rw [hb] at hk'; cases hk'
      exact .inl ⟨0, e, by simp [pi1], by rw [PT.get_set_same], he _, fun _ => hb⟩
    · refine .inr ⟨hk, h.live_lt hk, fun i x hx => ?_⟩
      obtain ⟨rfl, _⟩ := get1 hx
      simpa [pi1] using hkb)
  exact ⟨γ, v', rfl, hg, (hv _ γ v').1 (by rw [← hβ]; exact hvr)⟩

theorem one_new (hk1 : 1 ≤ k) (hkK : k ≤ K) (h : Rel α S w) (hb : S.heap.get b = some e) (he : ∀ π, RenE π e e) (he2 : ∀ π, RenE π e2 e2) (hro : e2.ro = false) (hv : RenV (pi1 b S) v v2)
    (hc : Rel (fun i => α (pi1 b S i)) { heap := PT.leaf.set 0 (some e), next := 1, glob := 0 } w →
      Calls P f args' w fun x w' => ∃ β v', x = .returned v' ∧ Next (fun i => α (pi1 b S i)) { heap := PT.leaf.set 0 (some e), next := 1, glob := 0 } w β { heap := (PT.leaf.set 0 (some e)).set k (some e2), next := 1 + K, glob := 0 } w' ∧ VRel β v v') :
    Calls P f args' w fun x w' => ∃ β v', x = .returned v' ∧ Next α S w β { S with heap := S.heap.set (S.next + (k - 1)) (some e2), next := S.next + K } w' ∧ VRel β v2 v' := by
  have hlt := h.live_lt hb
  have hsm := small1 (S := S) hb he
  refine (hc (h.small (emb1 hlt) hsm)).mono ?_
  rintro x w' ⟨β, v', rfl, hn, hvr⟩
  obtain ⟨γ, hg, hβ⟩ := hn.large (S' := { S with heap := S.heap.set (S.next + (k - 1)) (some e2), next := S.next + K }) h (emb1 hlt) hsm (by simp) rfl (fun j y hj => by
    have hj' : (S.heap.set (S.next + (k - 1)) (some e2)).get j = some y := hj
    rw [PT.get_set] at hj'
    split at hj'
    · rename_i hjk
      cases hj'
      refine .inl ⟨k, e2, ?_, by rw [PT.get_set_same], he2 _, fun hr => by rw [hro] at hr; cases hr⟩
      rw [hjk]
      show _ = if k = 0 then b else _
      rw [if_neg (by omega)]
    · by_cases hkb : j = b
      · subst hkb
        rw [hb] at hj'; cases hj'
        exact .inl ⟨0, e, by simp [pi1], by rw [PT.get_set, if_neg (by omega), PT.get_set_same], he _, fun _ => hb⟩
      · refine .inr ⟨hj', h.live_lt hj', fun i x hx => ?_⟩
        obtain ⟨rfl, _⟩ := get1 hx
        simpa [pi1] using hkb)
  exact ⟨γ, v', rfl, hg, (hv γ v').1 (by rw [← hβ]; exact hvr)⟩

/-- the block's own row is given up for a new one -/
theorem one_move (hk1 : 1 ≤ k) (hkK : k ≤ K) (h : Rel α S w) (hb : S.heap.get b = some e) (he : ∀ π, RenE π e e) (he2 : ∀ π, RenE π e2 e2) (hro : e2.ro = false) (hv : RenV (pi1 b S) v v2)
    (hc : Rel (fun i => α (pi1 b S i)) { heap := PT.leaf.set 0 (some e), next := 1, glob := 0 } w →
      Calls P f args' w fun x w' => ∃ β v', x = .returned v' ∧ Next (fun i => α (pi1 b S i)) { heap := PT.leaf.set 0 (some e), next := 1, glob := 0 } w β { heap := PT.leaf.set k (some e2), next := 1 + K, glob := 0 } w' ∧ VRel β v v') :
    Calls P f args' w fun x w' => ∃ β v', x = .returned v' ∧ Next α S w β { S with heap := (S.heap.set b none).set (S.next + (k - 1)) (some e2), next := S.next + K } w' ∧ VRel β v2 v' := by
  have hlt := h.live_lt hb
  have hsm := small1 (S := S) hb he
  refine (hc (h.small (emb1 hlt) hsm)).mono ?_
  rintro x w' ⟨β, v', rfl, hn, hvr⟩
  obtain ⟨γ, hg, hβ⟩ := hn.large (S' := { S with heap := (S.heap.set b none).set (S.next + (k - 1)) (some e2), next := S.next + K }) h (emb1 hlt) hsm (by simp) rfl (fun j y hj => by
    have hj' : ((S.heap.set b none).set (S.next + (k - 1)) (some e2)).get j = some y := hj
    rw [PT.get_set] at hj'
    split at hj'
    · rename_i hjk
      cases hj'
      refine .inl ⟨k, e2, ?_, by rw [PT.get_set_same], he2 _, fun hr => by rw [hro] at hr; cases hr⟩
      rw [hjk]
      show _ = if k = 0 then b else _
      rw [if_neg (by omega)]
    · rw [PT.get_set] at hj'
      split at hj'
      · cases hj'
      · rename_i hkb
        refine .inr ⟨hj', h.live_lt hj', fun i x hx => ?_⟩
        obtain ⟨rfl, _⟩ := get1 hx
        simpa [pi1] using hkb)
  exact ⟨γ, v', rfl, hg, (hv γ v').1 (by rw [← hβ]; exact hvr)⟩
end
end Go.Xe
/-
  Paths of put (printed by walk.py).
-/
set_option linter.unusedVariables false
namespace Go.Xe
open Go Go.Proofs

theorem put2 (n : Nat) (o len cap : Nat) (cs : List Value) : ycode Tryd.prog okN yc0 (kp 48) 100 (codeOf Tryd.prog 48) (startX Tryd.f48 [.slice (some ⟨0, o, none⟩) len cap, .int .u64 (n : Int), .int .i64 2]) { heap := PT.leaf.set 0 (some (.row cs 1 false)), next := 1, glob := 0 } [true, false, false, true, false, false, false] = some (decide (len ≤ cap) && (!decide (len + 1 ≤ cap) && (decide ((len + 1) * 1 ≤ 140737488355328) && (decide (len + 1 ≤ 9223372036854775807) && (decide (o + len * 1 ≤ List.length cs) && (List.all (List.take (len * 1) (List.drop o cs) ++ List.take 1 (List.drop 0 (splice (zerosL [Value.int IntKind.u8 0] 1) 0 [Value.int IntKind.u8 (IntKind.wrap IntKind.u8 (↑n : Int))]))) one && true && true))))) && true && true && true && true && true && true && true && (decide (len + 1 ≤ len + 1) && (!decide (len + 1 + 1 ≤ len + 1) && (decide ((len + 1 + 1) * 1 ≤ 140737488355328) && (decide (len + 1 + 1 ≤ 9223372036854775807) && (decide (0 + (len + 1) * 1 ≤ List.length (List.take (len * 1) (List.drop o cs) ++ List.take 1 (List.drop 0 (splice (zerosL [Value.int IntKind.u8 0] 1) 0 [Value.int IntKind.u8 (IntKind.wrap IntKind.u8 (↑n : Int))])))) && (List.all (List.take ((len + 1) * 1) (List.drop 0 (List.take (len * 1) (List.drop o cs) ++ List.take 1 (List.drop 0 (splice (zerosL [Value.int IntKind.u8 0] 1) 0 [Value.int IntKind.u8 (IntKind.wrap IntKind.u8 (↑n : Int))])))) ++ List.take 1 (List.drop 0 (splice (zerosL [Value.int IntKind.u8 0] 1) 0 [Value.int IntKind.u8 (IntKind.wrap IntKind.u8 (Int.fdiv (↑n : Int) 256))]))) one && true && true))))) && true && true && true && true && true && true && true && true) && true && true, ((XE.ret, [none, none, none, none, none, none, some (Value.slice (some { block := 4, off := 0 : Addr }) (len + 1 + 1) (len + 1 + 1)), none, none, none, none, none, none, none, none, none, none, none, none], { heap := PT.node (PT.node (PT.node PT.leaf (some (Ent.row [Value.int IntKind.u8 (IntKind.wrap IntKind.u8 (Int.fdiv (↑n : Int) 256))] 1 false)) PT.leaf) (some (Ent.row [Value.int IntKind.u8 (IntKind.wrap IntKind.u8 (↑n : Int))] 1 false)) PT.leaf) none (PT.node (PT.node PT.leaf (some (Ent.row (List.take ((len + 1) * 1) (List.drop 0 (List.take (len * 1) (List.drop o cs) ++ List.take 1 (List.drop 0 (splice (zerosL [Value.int IntKind.u8 0] 1) 0 [Value.int IntKind.u8 (IntKind.wrap IntKind.u8 (↑n : Int))])))) ++ List.take 1 (List.drop 0 (splice (zerosL [Value.int IntKind.u8 0] 1) 0 [Value.int IntKind.u8 (IntKind.wrap IntKind.u8 (Int.fdiv (↑n : Int) 256))]))) 1 false)) PT.leaf) none PT.leaf), next := 5, glob := 0 : St }), [])) := by kernel_rfl
theorem put4 (n : Nat) (o len cap : Nat) (cs : List Value) : ycode Tryd.prog okN yc0 (kp 48) 100 (codeOf Tryd.prog 48) (startX Tryd.f48 [.slice (some ⟨0, o, none⟩) len cap, .int .u64 (n : Int), .int .i64 4]) { heap := PT.leaf.set 0 (some (.row cs 1 false)), next := 1, glob := 0 } [true, false, false, true, false, false, true, false, false, true, false, false, false] = some (decide (len ≤ cap) && (!decide (len + 1 ≤ cap) && (decide ((len + 1) * 1 ≤ 140737488355328) && (decide (len + 1 ≤ 9223372036854775807) && (decide (o + len * 1 ≤ List.length cs) && (List.all (List.take (len * 1) (List.drop o cs) ++ List.take 1 (List.drop 0 (splice (zerosL [Value.int IntKind.u8 0] 1) 0 [Value.int IntKind.u8 (IntKind.wrap IntKind.u8 (↑n : Int))]))) one && true && true))))) && true && true && true && true && true && true && true && (decide (len + 1 ≤ len + 1) && (!decide (len + 1 + 1 ≤ len + 1) && (decide ((len + 1 + 1) * 1 ≤ 140737488355328) && (decide (len + 1 + 1 ≤ 9223372036854775807) && (decide (0 + (len + 1) * 1 ≤ List.length (List.take (len * 1) (List.drop o cs) ++ List.take 1 (List.drop 0 (splice (zerosL [Value.int IntKind.u8 0] 1) 0 [Value.int IntKind.u8 (IntKind.wrap IntKind.u8 (↑n : Int))])))) && (List.all (List.take ((len + 1) * 1) (List.drop 0 (List.take (len * 1) (List.drop o cs) ++ List.take 1 (List.drop 0 (splice (zerosL [Value.int IntKind.u8 0] 1) 0 [Value.int IntKind.u8 (IntKind.wrap IntKind.u8 (↑n : Int))])))) ++ List.take 1 (List.drop 0 (splice (zerosL [Value.int IntKind.u8 0] 1) 0 [Value.int IntKind.u8 (IntKind.wrap IntKind.u8 (Int.fdiv (↑n : Int) 256))]))) one && true && true))))) && true && true && true && true && true && true && true && (decide (len + 1 + 1 ≤ len + 1 + 1) && (!decide (len + 1 + 1 + 1 ≤ len + 1 + 1) && (decide ((len + 1 + 1 + 1) * 1 ≤ 140737488355328) && (decide (len + 1 + 1 + 1 ≤ 9223372036854775807) && (decide (0 + (len + 1 + 1) * 1 ≤ List.length (List.take ((len + 1) * 1) (List.drop 0 (List.take (len * 1) (List.drop o cs) ++ List.take 1 (List.drop 0 (splice (zerosL [Value.int IntKind.u8 0] 1) 0 [Value.int IntKind.u8 (IntKind.wrap IntKind.u8 (↑n : Int))])))) ++ List.take 1 (List.drop 0 (splice (zerosL [Value.int IntKind.u8 0] 1) 0 [Value.int IntKind.u8 (IntKind.wrap IntKind.u8 (Int.fdiv (↑n : Int) 256))])))) && (List.all (List.take ((len + 1 + 1) * 1) (List.drop 0 (List.take ((len + 1) * 1) (List.drop 0 (List.take (len * 1) (List.drop o cs) ++ List.take 1 (List.drop 0 (splice (zerosL [Value.int IntKind.u8 0] 1) 0 [Value.int IntKind.u8 (IntKind.wrap IntKind.u8 (↑n : Int))])))) ++ List.take 1 (List.drop 0 (splice (zerosL [Value.int IntKind.u8 0] 1) 0 [Value.int IntKind.u8 (IntKind.wrap IntKind.u8 (Int.fdiv (↑n : Int) 256))])))) ++ List.take 1 (List.drop 0 (splice (zerosL [Value.int IntKind.u8 0] 1) 0 [Value.int IntKind.u8 (IntKind.wrap IntKind.u8 (Int.fdiv (Int.fdiv (↑n : Int) 256) 256))]))) one && true && true))))) && true && true && true && true && true && true && true && (decide (len + 1 + 1 + 1 ≤ len + 1 + 1 + 1) && (!decide (len + 1 + 1 + 1 + 1 ≤ len + 1 + 1 + 1) && (decide ((len + 1 + 1 + 1 + 1) * 1 ≤ 140737488355328) && (decide (len + 1 + 1 + 1 + 1 ≤ 9223372036854775807) && (decide (0 + (len + 1 + 1 + 1) * 1 ≤ List.length (List.take ((len + 1 + 1) * 1) (List.drop 0 (List.take ((len + 1) * 1) (List.drop 0 (List.take (len * 1) (List.drop o cs) ++ List.take 1 (List.drop 0 (splice (zerosL [Value.int IntKind.u8 0] 1) 0 [Value.int IntKind.u8 (IntKind.wrap IntKind.u8 (↑n : Int))])))) ++ List.take 1 (List.drop 0 (splice (zerosL [Value.int IntKind.u8 0] 1) 0 [Value.int IntKind.u8 (IntKind.wrap IntKind.u8 (Int.fdiv (↑n : Int) 256))])))) ++ List.take 1 (List.drop 0 (splice (zerosL [Value.int IntKind.u8 0] 1) 0 [Value.int IntKind.u8 (IntKind.wrap IntKind.u8 (Int.fdiv (Int.fdiv (↑n : Int) 256) 256))])))) && (List.all (List.take ((len + 1 + 1 + 1) * 1) (List.drop 0 (List.take ((len + 1 + 1) * 1) (List.drop 0 (List.take ((len + 1) * 1) (List.drop 0 (List.take (len * 1) (List.drop o cs) ++ List.take 1 (List.drop 0 (splice (zerosL [Value.int IntKind.u8 0] 1) 0 [Value.int IntKind.u8 (IntKind.wrap IntKind.u8 (↑n : Int))])))) ++ List.take 1 (List.drop 0 (splice (zerosL [Value.int IntKind.u8 0] 1) 0 [Value.int IntKind.u8 (IntKind.wrap IntKind.u8 (Int.fdiv (↑n : Int) 256))])))) ++ List.take 1 (List.drop 0 (splice (zerosL [Value.int IntKind.u8 0] 1) 0 [Value.int IntKind.u8 (IntKind.wrap IntKind.u8 (Int.fdiv (Int.fdiv (↑n : Int) 256) 256))])))) ++ List.take 1 (List.drop 0 (splice (zerosL [Value.int IntKind.u8 0] 1) 0 [Value.int IntKind.u8 (IntKind.wrap IntKind.u8 (Int.fdiv (Int.fdiv (Int.fdiv (↑n : Int) 256) 256) 256))]))) one && true && true))))) && true && true && true && true && true && true && true && true))) && true && true, ((XE.ret, [none, none, none, none, none, none, some (Value.slice (some { block := 8, off := 0 : Addr }) (len + 1 + 1 + 1 + 1) (len + 1 + 1 + 1 + 1)), none, none, none, none, none, none, none, none, none, none, none, none], { heap := PT.node (PT.node (PT.node (PT.node PT.leaf (some (Ent.row [Value.int IntKind.u8 (IntKind.wrap IntKind.u8 (Int.fdiv (Int.fdiv (Int.fdiv (↑n : Int) 256) 256) 256))] 1 false)) PT.leaf) (some (Ent.row [Value.int IntKind.u8 (IntKind.wrap IntKind.u8 (Int.fdiv (↑n : Int) 256))] 1 false)) PT.leaf) (some (Ent.row [Value.int IntKind.u8 (IntKind.wrap IntKind.u8 (↑n : Int))] 1 false)) (PT.node PT.leaf (some (Ent.row [Value.int IntKind.u8 (IntKind.wrap IntKind.u8 (Int.fdiv (Int.fdiv (↑n : Int) 256) 256))] 1 false)) PT.leaf)) none (PT.node (PT.node (PT.node PT.leaf (some (Ent.row (List.take ((len + 1 + 1 + 1) * 1) (List.drop 0 (List.take ((len + 1 + 1) * 1) (List.drop 0 (List.take ((len + 1) * 1) (List.drop 0 (List.take (len * 1) (List.drop o cs) ++ List.take 1 (List.drop 0 (splice (zerosL [Value.int IntKind.u8 0] 1) 0 [Value.int IntKind.u8 (IntKind.wrap IntKind.u8 (↑n : Int))])))) ++ List.take 1 (List.drop 0 (splice (zerosL [Value.int IntKind.u8 0] 1) 0 [Value.int IntKind.u8 (IntKind.wrap IntKind.u8 (Int.fdiv (↑n : Int) 256))])))) ++ List.take 1 (List.drop 0 (splice (zerosL [Value.int IntKind.u8 0] 1) 0 [Value.int IntKind.u8 (IntKind.wrap IntKind.u8 (Int.fdiv (Int.fdiv (↑n : Int) 256) 256))])))) ++ List.take 1 (List.drop 0 (splice (zerosL [Value.int IntKind.u8 0] 1) 0 [Value.int IntKind.u8 (IntKind.wrap IntKind.u8 (Int.fdiv (Int.fdiv (Int.fdiv (↑n : Int) 256) 256) 256))]))) 1 false)) PT.leaf) none PT.leaf) none (PT.node PT.leaf none PT.leaf)), next := 9, glob := 0 : St }), [])) := by kernel_rfl
theorem put8 (n : Nat) (o len cap : Nat) (cs : List Value) : ycode Tryd.prog okN yc0 (kp 48) 100 (codeOf Tryd.prog 48) (startX Tryd.f48 [.slice (some ⟨0, o, none⟩) len cap, .int .u64 (n : Int), .int .i64 8]) { heap := PT.leaf.set 0 (some (.row cs 1 false)), next := 1, glob := 0 } [true, false, false, true, false, false, true, false, false, true, false, false, true, false, false, true, false, false, true, false, false, true, false, false, false] = some (decide (len ≤ cap) && (!decide (len + 1 ≤ cap) && (decide ((len + 1) * 1 ≤ 140737488355328) && (decide (len + 1 ≤ 9223372036854775807) && (decide (o + len * 1 ≤ List.length cs) && (List.all (List.take (len * 1) (List.drop o cs) ++ List.take 1 (List.drop 0 (splice (zerosL [Value.int IntKind.u8 0] 1) 0 [Value.int IntKind.u8 (IntKind.wrap IntKind.u8 (↑n : Int))]))) one && true && true))))) && true && true && true && true && true && true && true && (decide (len + 1 ≤ len + 1) && (!decide (len + 1 + 1 ≤ len + 1) && (decide ((len + 1 + 1) * 1 ≤ 140737488355328) && (decide (len + 1 + 1 ≤ 9223372036854775807) && (decide (0 + (len + 1) * 1 ≤ List.length (List.take (len * 1) (List.drop o cs) ++ List.take 1 (List.drop 0 (splice (zerosL [Value.int IntKind.u8 0] 1) 0 [Value.int IntKind.u8 (IntKind.wrap IntKind.u8 (↑n : Int))])))) && (List.all (List.take ((len + 1) * 1) (List.drop 0 (List.take (len * 1) (List.drop o cs) ++ List.take 1 (List.drop 0 (splice (zerosL [Value.int IntKind.u8 0] 1) 0 [Value.int IntKind.u8 (IntKind.wrap IntKind.u8 (↑n : Int))])))) ++ List.take 1 (List.drop 0 (splice (zerosL [Value.int IntKind.u8 0] 1) 0 [Value.int IntKind.u8 (IntKind.wrap IntKind.u8 (Int.fdiv (↑n : Int) 256))]))) one && true && true))))) && true && true && true && true && true && true && true && (decide (len + 1 + 1 ≤ len + 1 + 1) && (!decide (len + 1 + 1 + 1 ≤ len + 1 + 1) && (decide ((len + 1 + 1 + 1) * 1 ≤ 140737488355328) && (decide (len + 1 + 1 + 1 ≤ 9223372036854775807) && (decide (0 + (len + 1 + 1) * 1 ≤ List.length (List.take ((len + 1) * 1) (List.drop 0 (List.take (len * 1) (List.drop o cs) ++ List.take 1 (List.drop 0 (splice (zerosL [Value.int IntKind.u8 0] 1) 0 [Value.int IntKind.u8 (IntKind.wrap IntKind.u8 (↑n : Int))])))) ++ List.take 1 (List.drop 0 (splice (zerosL [Value.int IntKind.u8 0] 1) 0 [Value.int IntKind.u8 (IntKind.wrap IntKind.u8 (Int.fdiv (↑n : Int) 256))])))) && (List.all (List.take ((len + 1 + 1) * 1) (List.drop 0 (List.take ((len + 1) * 1) (List.drop 0 (List.take (len * 1) (List.drop o cs) ++ List.take 1 (List.drop 0 (splice (zerosL [Value.int IntKind.u8 0] 1) 0 [Value.int IntKind.u8 (IntKind.wrap IntKind.u8 (↑n : Int))])))) ++ List.take 1 (List.drop 0 (splice (zerosL [Value.int IntKind.u8 0] 1) 0 [Value.int IntKind.u8 (IntKind.wrap IntKind.u8 (Int.fdiv (↑n : Int) 256))])))) ++ List.take 1 (List.drop 0 (splice (zerosL [Value.int IntKind.u8 0] 1) 0 [Value.int IntKind.u8 (IntKind.wrap IntKind.u8 (Int.fdiv (Int.fdiv (↑n : Int) 256) 256))]))) one && true && true))))) && true && true && true && true && true && true && true && (decide (len + 1 + 1 + 1 ≤ len + 1 + 1 + 1) && (!decide (len + 1 + 1 + 1 + 1 ≤ len + 1 + 1 + 1) && (decide ((len + 1 + 1 + 1 + 1) * 1 ≤ 140737488355328) && (decide (len + 1 + 1 + 1 + 1 ≤ 9223372036854775807) && (decide (0 + (len + 1 + 1 + 1) * 1 ≤ List.length (List.take ((len + 1 + 1) * 1) (List.drop 0 (List.take ((len + 1) * 1) (List.drop 0 (List.take (len * 1) (List.drop o cs) ++ List.take 1 (List.drop 0 (splice (zerosL [Value.int IntKind.u8 0] 1) 0 [Value.int IntKind.u8 (IntKind.wrap IntKind.u8 (↑n : Int))])))) ++ List.take 1 (List.drop 0 (splice (zerosL [Value.int IntKind.u8 0] 1) 0 [Value.int IntKind.u8 (IntKind.wrap IntKind.u8 (Int.fdiv (↑n : Int) 256))])))) ++ List.take 1 (List.drop 0 (splice (zerosL [Value.int IntKind.u8 0] 1) 0 [Value.int IntKind.u8 (IntKind.wrap IntKind.u8 (Int.fdiv (Int.fdiv (↑n : Int) 256) 256))])))) && (List.all (List.take ((len + 1 + 1 + 1) * 1) (List.drop 0 (List.take ((len + 1 + 1) * 1) (List.drop 0 (List.take ((len + 1) * 1) (List.drop 0 (List.take (len * 1) (List.drop o cs) ++ List.take 1 (List.drop 0 (splice (zerosL [Value.int IntKind.u8 0] 1) 0 [Value.int IntKind.u8 (IntKind.wrap IntKind.u8 (↑n : Int))])))) ++ List.take 1 (List.drop 0 (splice (zerosL [Value.int IntKind.u8 0] 1) 0 [Value.int IntKind.u8 (IntKind.wrap IntKind.u8 (Int.fdiv (↑n : Int) 256))])))) ++ List.take 1 (List.drop 0 (splice (zerosL [Value.int IntKind.u8 0] 1) 0 [Value.int IntKind.u8 (IntKind.wrap IntKind.u8 (Int.fdiv (Int.fdiv (↑n : Int) 256) 256))])))) ++ List.take 1 (List.drop 0 (splice (zerosL [Value.int IntKind.u8 0] 1) 0 [Value.int IntKind.u8 (IntKind.wrap IntKind.u8 (Int.fdiv (Int.fdiv (Int.fdiv (↑n : Int) 256) 256) 256))]))) one && true && true))))) && true && true && true && true && true && true && true && (decide (len + 1 + 1 + 1 + 1 ≤ len + 1 + 1 + 1 + 1) && (!decide (len + 1 + 1 + 1 + 1 + 1 ≤ len + 1 + 1 + 1 + 1) && (decide ((len + 1 + 1 + 1 + 1 + 1) * 1 ≤ 140737488355328) && (decide (len + 1 + 1 + 1 + 1 + 1 ≤ 9223372036854775807) && (decide (0 + (len + 1 + 1 + 1 + 1) * 1 ≤ List.length (List.take ((len + 1 + 1 + 1) * 1) (List.drop 0 (List.take ((len + 1 + 1) * 1) (List.drop 0 (List.take ((len + 1) * 1) (List.drop 0 (List.take (len * 1) (List.drop o cs) ++ List.take 1 (List.drop 0 (splice (zerosL [Value.int IntKind.u8 0] 1) 0 [Value.int IntKind.u8 (IntKind.wrap IntKind.u8 (↑n : Int))])))) ++ List.take 1 (List.drop 0 (splice (zerosL [Value.int IntKind.u8 0] 1) 0 [Value.int IntKind.u8 (IntKind.wrap IntKind.u8 (Int.fdiv (↑n : Int) 256))])))) ++ List.take 1 (List.drop 0 (splice (zerosL [Value.int IntKind.u8 0] 1) 0 [Value.int IntKind.u8 (IntKind.wrap IntKind.u8 (Int.fdiv (Int.fdiv (↑n : Int) 256) 256))])))) ++ List.take 1 (List.drop 0 (splice (zerosL [Value.int IntKind.u8 0] 1) 0 [Value.int IntKind.u8 (IntKind.wrap IntKind.u8 (Int.fdiv (Int.fdiv (Int.fdiv (↑n : Int) 256) 256) 256))])))) && (List.all (List.take ((len + 1 + 1 + 1 + 1) * 1) (List.drop 0 (List.take ((len + 1 + 1 + 1) * 1) (List.drop 0 (List.take ((len + 1 + 1) * 1) (List.drop 0 (List.take ((len + 1) * 1) (List.drop 0 (List.take (len * 1) (List.drop o cs) ++ List.take 1 (List.drop 0 (splice (zerosL [Value.int IntKind.u8 0] 1) 0 [Value.int IntKind.u8 (IntKind.wrap IntKind.u8 (↑n : Int))])))) ++ List.take 1 (List.drop 0 (splice (zerosL [Value.int IntKind.u8 0] 1) 0 [Value.int IntKind.u8 (IntKind.wrap IntKind.u8 (Int.fdiv (↑n : Int) 256))])))) ++ List.take 1 (List.drop 0 (splice (zerosL [Value.int IntKind.u8 0] 1) 0 [Value.int IntKind.u8 (IntKind.wrap IntKind.u8 (Int.fdiv (Int.fdiv (↑n : Int) 256) 256))])))) ++ List.take 1 (List.drop 0 (splice (zerosL [Value.int IntKind.u8 0] 1) 0 [Value.int IntKind.u8 (IntKind.wrap IntKind.u8 (Int.fdiv (Int.fdiv (Int.fdiv (↑n : Int) 256) 256) 256))])))) ++ List.take 1 (List.drop 0 (splice (zerosL [Value.int IntKind.u8 0] 1) 0 [Value.int IntKind.u8 (IntKind.wrap IntKind.u8 (Int.fdiv (Int.fdiv (Int.fdiv (Int.fdiv (↑n : Int) 256) 256) 256) 256))]))) one && true && true))))) && true && true && true && true && true && true && true && (decide (len + 1 + 1 + 1 + 1 + 1 ≤ len + 1 + 1 + 1 + 1 + 1) && (!decide (len + 1 + 1 + 1 + 1 + 1 + 1 ≤ len + 1 + 1 + 1 + 1 + 1) && (decide ((len + 1 + 1 + 1 + 1 + 1 + 1) * 1 ≤ 140737488355328) && (decide (len + 1 + 1 + 1 + 1 + 1 + 1 ≤ 9223372036854775807) && (decide (0 + (len + 1 + 1 + 1 + 1 + 1) * 1 ≤ List.length (List.take ((len + 1 + 1 + 1 + 1) * 1) (List.drop 0 (List.take ((len + 1 + 1 + 1) * 1) (List.drop 0 (List.take ((len + 1 + 1) * 1) (List.drop 0 (List.take ((len + 1) * 1) (List.drop 0 (List.take (len * 1) (List.drop o cs) ++ List.take 1 (List.drop 0 (splice (zerosL [Value.int IntKind.u8 0] 1) 0 [Value.int IntKind.u8 (IntKind.wrap IntKind.u8 (↑n : Int))])))) ++ List.take 1 (List.drop 0 (splice (zerosL [Value.int IntKind.u8 0] 1) 0 [Value.int IntKind.u8 (IntKind.wrap IntKind.u8 (Int.fdiv (↑n : Int) 256))])))) ++ List.take 1 (List.drop 0 (splice (zerosL [Value.int IntKind.u8 0] 1) 0 [Value.int IntKind.u8 (IntKind.wrap IntKind.u8 (Int.fdiv (Int.fdiv (↑n : Int) 256) 256))])))) ++ List.take 1 (List.drop 0 (splice (zerosL [Value.int IntKind.u8 0] 1) 0 [Value.int IntKind.u8 (IntKind.wrap IntKind.u8 (Int.fdiv (Int.fdiv (Int.fdiv (↑n : Int) 256) 256) 256))])))) ++ List.take 1 (List.drop 0 (splice (zerosL [Value.int IntKind.u8 0] 1) 0 [Value.int IntKind.u8 (IntKind.wrap IntKind.u8 (Int.fdiv (Int.fdiv (Int.fdiv (Int.fdiv (↑n : Int) 256) 256) 256) 256))])))) && (List.all (List.take ((len + 1 + 1 + 1 + 1 + 1) * 1) (List.drop 0 (List.take ((len + 1 + 1 + 1 + 1) * 1) (List.drop 0 (List.take ((len + 1 + 1 + 1) * 1) (List.drop 0 (List.take ((len + 1 + 1) * 1) (List.drop 0 (List.take ((len + 1) * 1) (List.drop 0 (List.take (len * 1) (List.drop o cs) ++ List.take 1 (List.drop 0 (splice (zerosL [Value.int IntKind.u8 0] 1) 0 [Value.int IntKind.u8 (IntKind.wrap IntKind.u8 (↑n : Int))])))) ++ List.take 1 (List.drop 0 (splice (zerosL [Value.int IntKind.u8 0] 1) 0 [Value.int IntKind.u8 (IntKind.wrap IntKind.u8 (Int.fdiv (↑n : Int) 256))])))) ++ List.take 1 (List.drop 0 (splice (zerosL [Value.int IntKind.u8 0] 1) 0 [Value.int IntKind.u8 (IntKind.wrap IntKind.u8 (Int.fdiv (Int.fdiv (↑n : Int) 256) 256))])))) ++ List.take 1 (List.drop 0 (splice (zerosL [Value.int IntKind.u8 0] 1) 0 [Value.int IntKind.u8 (IntKind.wrap IntKind.u8 (Int.fdiv (Int.fdiv (Int.fdiv (↑n : Int) 256) 256) 256))])))) ++ List.take 1 (List.drop 0 (splice (zerosL [Value.int IntKind.u8 0] 1) 0 [Value.int IntKind.u8 (IntKind.wrap IntKind.u8 (Int.fdiv (Int.fdiv (Int.fdiv (Int.fdiv (↑n : Int) 256) 256) 256) 256))])))) ++ List.take 1 (List.drop 0 (splice (zerosL [Value.int IntKind.u8 0] 1) 0 [Value.int IntKind.u8 (IntKind.wrap IntKind.u8 (Int.fdiv (Int.fdiv (Int.fdiv (Int.fdiv (Int.fdiv (↑n : Int) 256) 256) 256) 256) 256))]))) one && true && true))))) && true && true && true && true && true && true && true && (decide (len + 1 + 1 + 1 + 1 + 1 + 1 ≤ len + 1 + 1 + 1 + 1 + 1 + 1) && (!decide (len + 1 + 1 + 1 + 1 + 1 + 1 + 1 ≤ len + 1 + 1 + 1 + 1 + 1 + 1) && (decide ((len + 1 + 1 + 1 + 1 + 1 + 1 + 1) * 1 ≤ 140737488355328) && (decide (len + 1 + 1 + 1 + 1 + 1 + 1 + 1 ≤ 9223372036854775807) && (decide (0 + (len + 1 + 1 + 1 + 1 + 1 + 1) * 1 ≤ List.length (List.take ((len + 1 + 1 + 1 + 1 + 1) * 1) (List.drop 0 (List.take ((len + 1 + 1 + 1 + 1) * 1) (List.drop 0 (List.take ((len + 1 + 1 + 1) * 1) (List.drop 0 (List.take ((len + 1 + 1) * 1) (List.drop 0 (List.take ((len + 1) * 1) (List.drop 0 (List.take (len * 1) (List.drop o cs) ++ List.take 1 (List.drop 0 (splice (zerosL [Value.int IntKind.u8 0] 1) 0 [Value.int IntKind.u8 (IntKind.wrap IntKind.u8 (↑n : Int))])))) ++ List.take 1 (List.drop 0 (splice (zerosL [Value.int IntKind.u8 0] 1) 0 [Value.int IntKind.u8 (IntKind.wrap IntKind.u8 (Int.fdiv (↑n : Int) 256))])))) ++ List.take 1 (List.drop 0 (splice (zerosL [Value.int IntKind.u8 0] 1) 0 [Value.int IntKind.u8 (IntKind.wrap IntKind.u8 (Int.fdiv (Int.fdiv (↑n : Int) 256) 256))])))) ++ List.take 1 (List.drop 0 (splice (zerosL [Value.int IntKind.u8 0] 1) 0 [Value.int IntKind.u8 (IntKind.wrap IntKind.u8 (Int.fdiv (Int.fdiv (Int.fdiv (↑n : Int) 256) 256) 256))])))) ++ List.take 1 (List.drop 0 (splice (zerosL [Value.int IntKind.u8 0] 1) 0 [Value.int IntKind.u8 (IntKind.wrap IntKind.u8 (Int.fdiv (Int.fdiv (Int.fdiv (Int.fdiv (↑n : Int) 256) 256) 256) 256))])))) ++ List.take 1 (List.drop 0 (splice (zerosL [Value.int IntKind.u8 0] 1) 0 [Value.int IntKind.u8 (IntKind.wrap IntKind.u8 (Int.fdiv (Int.fdiv (Int.fdiv (Int.fdiv (Int.fdiv (↑n : Int) 256) 256) 256) 256) 256))])))) && (List.all (List.take ((len + 1 + 1 + 1 + 1 + 1 + 1) * 1) (List.drop 0 (List.take ((len + 1 + 1 + 1 + 1 + 1) * 1) (List.drop 0 (List.take ((len + 1 + 1 + 1 + 1) * 1) (List.drop 0 (List.take ((len + 1 + 1 + 1) * 1) (List.drop 0 (List.take ((len + 1 + 1) * 1) (List.drop 0 (List.take ((len + 1) * 1) (List.drop 0 (List.take (len * 1) (List.drop o cs) ++ List.take 1 (List.drop 0 (splice (zerosL [Value.int IntKind.u8 0] 1) 0 [Value.int IntKind.u8 (IntKind.wrap IntKind.u8 (↑n : Int))])))) ++ List.take 1 (List.drop 0 (splice (zerosL [Value.int IntKind.u8 0] 1) 0 [Value.int IntKind.u8 (IntKind.wrap IntKind.u8 (Int.fdiv (↑n : Int) 256))])))) ++ List.take 1 (List.drop 0 (splice (zerosL [Value.int IntKind.u8 0] 1) 0 [Value.int IntKind.u8 (IntKind.wrap IntKind.u8 (Int.fdiv (Int.fdiv (↑n : Int) 256) 256))])))) ++ List.take 1 (List.drop 0 (splice (zerosL [Value.int IntKind.u8 0] 1) 0 [Value.int IntKind.u8 (IntKind.wrap IntKind.u8 (Int.fdiv (Int.fdiv (Int.fdiv (↑n : Int) 256) 256) 256))])))) ++ List.take 1 (List.drop 0 (splice (zerosL [Value.int IntKind.u8 0] 1) 0 [Value.int IntKind.u8 (IntKind.wrap IntKind.u8 (Int.fdiv (Int.fdiv (Int.fdiv (Int.fdiv (↑n : Int) 256) 256) 256) 256))])))) ++ List.take 1 (List.drop 0 (splice (zerosL [Value.int IntKind.u8 0] 1) 0 [Value.int IntKind.u8 (IntKind.wrap IntKind.u8 (Int.fdiv (Int.fdiv (Int.fdiv (Int.fdiv (Int.fdiv (↑n : Int) 256) 256) 256) 256) 256))])))) ++ List.take 1 (List.drop 0 (splice (zerosL [Value.int IntKind.u8 0] 1) 0 [Value.int IntKind.u8 (IntKind.wrap IntKind.u8 (Int.fdiv (Int.fdiv (Int.fdiv (Int.fdiv (Int.fdiv (Int.fdiv (↑n : Int) 256) 256) 256) 256) 256) 256))]))) one && true && true))))) && true && true && true && true && true && true && true && (decide (len + 1 + 1 + 1 + 1 + 1 + 1 + 1 ≤ len + 1 + 1 + 1 + 1 + 1 + 1 + 1) && (!decide (len + 1 + 1 + 1 + 1 + 1 + 1 + 1 + 1 ≤ len + 1 + 1 + 1 + 1 + 1 + 1 + 1) && (decide ((len + 1 + 1 + 1 + 1 + 1 + 1 + 1 + 1) * 1 ≤ 140737488355328) && (decide (len + 1 + 1 + 1 + 1 + 1 + 1 + 1 + 1 ≤ 9223372036854775807) && (decide (0 + (len + 1 + 1 + 1 + 1 + 1 + 1 + 1) * 1 ≤ List.length (List.take ((len + 1 + 1 + 1 + 1 + 1 + 1) * 1) (List.drop 0 (List.take ((len + 1 + 1 + 1 + 1 + 1) * 1) (List.drop 0 (List.take ((len + 1 + 1 + 1 + 1) * 1) (List.drop 0 (List.take ((len + 1 + 1 + 1) * 1) (List.drop 0 (List.take ((len + 1 + 1) * 1) (List.drop 0 (List.take ((len + 1) * 1) (List.drop 0 (List.take (len * 1) (List.drop o cs) ++ List.take 1 (List.drop 0 (splice (zerosL [Value.int IntKind.u8 0] 1) 0 [Value.int IntKind.u8 (IntKind.wrap IntKind.u8 (↑n : Int))])))) ++ List.take 1 (List.drop 0 (splice (zerosL [Value.int IntKind.u8 0] 1) 0 [Value.int IntKind.u8 (IntKind.wrap IntKind.u8 (Int.fdiv (↑n : Int) 256))])))) ++ List.take 1 (List.drop 0 (splice (zerosL [Value.int IntKind.u8 0] 1) 0 [Value.int IntKind.u8 (IntKind.wrap IntKind.u8 (Int.fdiv (Int.fdiv (↑n : Int) 256) 256))])))) ++ List.take 1 (List.drop 0 (splice (zerosL [Value.int IntKind.u8 0] 1) 0 [Value.int IntKind.u8 (IntKind.wrap IntKind.u8 (Int.fdiv (Int.fdiv (Int.fdiv (↑n : Int) 256) 256) 256))])))) ++ List.take 1 (List.drop 0 (splice (zerosL [Value.int IntKind.u8 0] 1) 0 [Value.int IntKind.u8 (IntKind.wrap IntKind.u8 (Int.fdiv (Int.fdiv (Int.fdiv (Int.fdiv (↑n : Int) 256) 256) 256) 256))])))) ++ List.take 1 (List.drop 0 (splice (zerosL [Value.int IntKind.u8 0] 1) 0 [Value.int IntKind.u8 (IntKind.wrap IntKind.u8 (Int.fdiv (Int.fdiv (Int.fdiv (Int.fdiv (Int.fdiv (↑n : Int) 256) 256) 256) 256) 256))])))) ++ List.take 1 (List.drop 0 (splice (zerosL [Value.int IntKind.u8 0] 1) 0 [Value.int IntKind.u8 (IntKind.wrap IntKind.u8 (Int.fdiv (Int.fdiv (Int.fdiv (Int.fdiv (Int.fdiv (Int.fdiv (↑n : Int) 256) 256) 256) 256) 256) 256))])))) && (List.all (List.take ((len + 1 + 1 + 1 + 1 + 1 + 1 + 1) * 1) (List.drop 0 (List.take ((len + 1 + 1 + 1 + 1 + 1 + 1) * 1) (List.drop 0 (List.take ((len + 1 + 1 + 1 + 1 + 1) * 1) (List.drop 0 (List.take ((len + 1 + 1 + 1 + 1) * 1) (List.drop 0 (List.take ((len + 1 + 1 + 1) * 1) (List.drop 0 (List.take ((len + 1 + 1) * 1) (List.drop 0 (List.take ((len + 1) * 1) (List.drop 0 (List.take (len * 1) (List.drop o cs) ++ List.take 1 (List.drop 0 (splice (zerosL [Value.int IntKind.u8 0] 1) 0 [Value.int IntKind.u8 (IntKind.wrap IntKind.u8 (↑n : Int))])))) ++ List.take 1 (List.drop 0 (splice (zerosL [Value.int IntKind.u8 0] 1) 0 [Value.int IntKind.u8 (IntKind.wrap IntKind.u8 (Int.fdiv (↑n : Int) 256))])))) ++ List.take 1 (List.drop 0 (splice (zerosL [Value.int IntKind.u8 0] 1) 0 [Value.int IntKind.u8 (IntKind.wrap IntKind.u8 (Int.fdiv (Int.fdiv (↑n : Int) 256) 256))])))) ++ List.take 1 (List.drop 0 (splice (zerosL [Value.int IntKind.u8 0] 1) 0 [Value.int IntKind.u8 (IntKind.wrap IntKind.u8 (Int.fdiv (Int.fdiv (Int.fdiv (↑n : Int) 256) 256) 256))])))) ++ List.take 1 (List.drop 0 (splice (zerosL [Value.int IntKind.u8 0] 1) 0 [Value.int IntKind.u8 (IntKind.wrap IntKind.u8 (Int.fdiv (Int.fdiv (Int.fdiv (Int.fdiv (↑n : Int) 256) 256) 256) 256))])))) ++ List.take 1 (List.drop 0 (splice (zerosL [Value.int IntKind.u8 0] 1) 0 [Value.int IntKind.u8 (IntKind.wrap IntKind.u8 (Int.fdiv (Int.fdiv (Int.fdiv (Int.fdiv (Int.fdiv (↑n : Int) 256) 256) 256) 256) 256))])))) ++ List.take 1 (List.drop 0 (splice (zerosL [Value.int IntKind.u8 0] 1) 0 [Value.int IntKind.u8 (IntKind.wrap IntKind.u8 (Int.fdiv (Int.fdiv (Int.fdiv (Int.fdiv (Int.fdiv (Int.fdiv (↑n : Int) 256) 256) 256) 256) 256) 256))])))) ++ List.take 1 (List.drop 0 (splice (zerosL [Value.int IntKind.u8 0] 1) 0 [Value.int IntKind.u8 (IntKind.wrap IntKind.u8 (Int.fdiv (Int.fdiv (Int.fdiv (Int.fdiv (Int.fdiv (Int.fdiv (Int.fdiv (↑n : Int) 256) 256) 256) 256) 256) 256) 256))]))) one && true && true))))) && true && true && true && true && true && true && true && true))))))) && true && true, ((XE.ret, [none, none, none, none, none, none, some (Value.slice (some { block := 16, off := 0 : Addr }) (len + 1 + 1 + 1 + 1 + 1 + 1 + 1 + 1) (len + 1 + 1 + 1 + 1 + 1 + 1 + 1 + 1)), none, none, none, none, none, none, none, none, none, none, none, none], { heap := PT.node (PT.node (PT.node (PT.node (PT.node PT.leaf (some (Ent.row [Value.int IntKind.u8 (IntKind.wrap IntKind.u8 (Int.fdiv (Int.fdiv (Int.fdiv (Int.fdiv (Int.fdiv (Int.fdiv (Int.fdiv (↑n : Int) 256) 256) 256) 256) 256) 256) 256))] 1 false)) PT.leaf) (some (Ent.row [Value.int IntKind.u8 (IntKind.wrap IntKind.u8 (Int.fdiv (Int.fdiv (Int.fdiv (↑n : Int) 256) 256) 256))] 1 false)) PT.leaf) (some (Ent.row [Value.int IntKind.u8 (IntKind.wrap IntKind.u8 (Int.fdiv (↑n : Int) 256))] 1 false)) (PT.node PT.leaf (some (Ent.row [Value.int IntKind.u8 (IntKind.wrap IntKind.u8 (Int.fdiv (Int.fdiv (Int.fdiv (Int.fdiv (Int.fdiv (↑n : Int) 256) 256) 256) 256) 256))] 1 false)) PT.leaf)) (some (Ent.row [Value.int IntKind.u8 (IntKind.wrap IntKind.u8 (↑n : Int))] 1 false)) (PT.node (PT.node PT.leaf (some (Ent.row [Value.int IntKind.u8 (IntKind.wrap IntKind.u8 (Int.fdiv (Int.fdiv (Int.fdiv (Int.fdiv (↑n : Int) 256) 256) 256) 256))] 1 false)) PT.leaf) (some (Ent.row [Value.int IntKind.u8 (IntKind.wrap IntKind.u8 (Int.fdiv (Int.fdiv (↑n : Int) 256) 256))] 1 false)) (PT.node PT.leaf (some (Ent.row [Value.int IntKind.u8 (IntKind.wrap IntKind.u8 (Int.fdiv (Int.fdiv (Int.fdiv (Int.fdiv (Int.fdiv (Int.fdiv (↑n : Int) 256) 256) 256) 256) 256) 256))] 1 false)) PT.leaf))) none (PT.node (PT.node (PT.node (PT.node PT.leaf (some (Ent.row (List.take ((len + 1 + 1 + 1 + 1 + 1 + 1 + 1) * 1) (List.drop 0 (List.take ((len + 1 + 1 + 1 + 1 + 1 + 1) * 1) (List.drop 0 (List.take ((len + 1 + 1 + 1 + 1 + 1) * 1) (List.drop 0 (List.take ((len + 1 + 1 + 1 + 1) * 1) (List.drop 0 (List.take ((len + 1 + 1 + 1) * 1) (List.drop 0 (List.take ((len + 1 + 1) * 1) (List.drop 0 (List.take ((len + 1) * 1) (List.drop 0 (List.take (len * 1) (List.drop o cs) ++ List.take 1 (List.drop 0 (splice (zerosL [Value.int IntKind.u8 0] 1) 0 [Value.int IntKind.u8 (IntKind.wrap IntKind.u8 (↑n : Int))])))) ++ List.take 1 (List.drop 0 (splice (zerosL [Value.int IntKind.u8 0] 1) 0 [Value.int IntKind.u8 (IntKind.wrap IntKind.u8 (Int.fdiv (↑n : Int) 256))])))) ++ List.take 1 (List.drop 0 (splice (zerosL [Value.int IntKind.u8 0] 1) 0 [Value.int IntKind.u8 (IntKind.wrap IntKind.u8 (Int.fdiv (Int.fdiv (↑n : Int) 256) 256))])))) ++ List.take 1 (List.drop 0 (splice (zerosL [Value.int IntKind.u8 0] 1) 0 [Value.int IntKind.u8 (IntKind.wrap IntKind.u8 (Int.fdiv (Int.fdiv (Int.fdiv (↑n : Int) 256) 256) 256))])))) ++ List.take 1 (List.drop 0 (splice (zerosL [Value.int IntKind.u8 0] 1) 0 [Value.int IntKind.u8 (IntKind.wrap IntKind.u8 (Int.fdiv (Int.fdiv (Int.fdiv (Int.fdiv (↑n : Int) 256) 256) 256) 256))])))) ++ List.take 1 (List.drop 0 (splice (zerosL [Value.int IntKind.u8 0] 1) 0 [Value.int IntKind.u8 (IntKind.wrap IntKind.u8 (Int.fdiv (Int.fdiv (Int.fdiv (Int.fdiv (Int.fdiv (↑n : Int) 256) 256) 256) 256) 256))])))) ++ List.take 1 (List.drop 0 (splice (zerosL [Value.int IntKind.u8 0] 1) 0 [Value.int IntKind.u8 (IntKind.wrap IntKind.u8 (Int.fdiv (Int.fdiv (Int.fdiv (Int.fdiv (Int.fdiv (Int.fdiv (↑n : Int) 256) 256) 256) 256) 256) 256))])))) ++ List.take 1 (List.drop 0 (splice (zerosL [Value.int IntKind.u8 0] 1) 0 [Value.int IntKind.u8 (IntKind.wrap IntKind.u8 (Int.fdiv (Int.fdiv (Int.fdiv (Int.fdiv (Int.fdiv (Int.fdiv (Int.fdiv (↑n : Int) 256) 256) 256) 256) 256) 256) 256))]))) 1 false)) PT.leaf) none PT.leaf) none (PT.node PT.leaf none PT.leaf)) none (PT.node (PT.node PT.leaf none PT.leaf) none (PT.node PT.leaf none PT.leaf))), next := 17, glob := 0 : St }), [])) := by kernel_rfl
end Go.Xe
