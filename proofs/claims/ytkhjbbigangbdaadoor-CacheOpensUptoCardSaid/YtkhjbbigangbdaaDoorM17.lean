/-
  A run of three bytes, again and again, among zeros, holds no record and no mark.
-/
import Derived.Test.YtkhjbbigangbdaaDoorM11
import Derived.Test.YtkhjbbigangbdaaDoorM12
import Derived.Test.YtkhjbbigangbdaaDoorM15
import Derived.Test.YtkhjbbigangbdaaDoorM16
set_option linter.unusedVariables false
set_option linter.unusedSimpArgs false
namespace Go.Xe
open Go Go.Proofs

def runVal (bb : Nat → Nat) (pos len j : Nat) : Nat := if pos ≤ j ∧ j < pos + len then bb ((j - pos) % 3) else 0
def mapRow (f : Nat → Nat) (z : Nat) : List Value := (List.range z).map fun j => .int .u8 ((f j : Nat) : Int)
theorem mapRow_length (f : Nat → Nat) (z : Nat) : (mapRow f z).length = z := by simp [mapRow]
theorem mapRow_get {f : Nat → Nat} {z j : Nat} (h : j < z) : (mapRow f z).getD j undefX = .int .u8 ((f j : Nat) : Int) := by
  simp [mapRow, List.getD_eq_getElem?_getD, h]
theorem mapRow_byte {f : Nat → Nat} {z j : Nat} (h : j < z) : byteN (mapRow f z) j = (f j : Int) := by
  unfold byteN; rw [mapRow_get h]; rfl
theorem mapRow_bytes {f : Nat → Nat} {z : Nat} (h : ∀ j, f j < 256) : (mapRow f z).all isByte = true := by
  rw [List.all_eq_true]
  intro v hv
  obtain ⟨j, _, rfl⟩ := List.mem_map.1 hv
  have := h j
  simp only [isByte, Bool.and_eq_true, decide_eq_true_eq]; omega
theorem mapRow_part {f : Nat → Nat} {z o k : Nat} (h : o + k ≤ z) : ((mapRow f z).drop o).take k = mapRow (fun t => f (o + t)) k := by
  apply List.ext_getElem?
  intro i
  simp only [mapRow, List.getElem?_take, List.getElem?_drop, List.getElem?_map]
  by_cases hi : i < k
  · rw [if_pos hi, List.getElem?_range (by omega), List.getElem?_range hi]; rfl
  · rw [if_neg hi, List.getElem?_eq_none (by simp; omega)]; rfl
theorem mapRow_congr {f g : Nat → Nat} {k : Nat} (h : ∀ t, t < k → f t = g t) : mapRow f k = mapRow g k := by
  unfold mapRow
  apply List.map_congr_left
  intro a ha
  rw [h a (List.mem_range.1 ha)]
theorem natsOf_map (f : Nat → Nat) (k : Nat) : natsOf (mapRow f k) = (List.range k).map f := by
  unfold natsOf mapRow
  rw [List.map_map]
  apply List.map_congr_left
  intro a _
  simp [intOf]

def pat (e x t : Nat) : Nat := if t < e then (if t % 3 = 0 then 99 else if t % 3 = 1 then 107 else x) else 0
theorem pat20 (x : Nat) (hx : x < 2) : ∃ b, b < 2 ^ 64 ∧ 1048576 ≤ b ∧ natSum (natSeed b) ((List.range 132).map (pat 20 x)) = 0 := by
  obtain rfl | rfl : x = 0 ∨ x = 1 := by omega
  · exact ⟨3844249011545161948, by decide, by decide, by kernel_rfl⟩
  · exact ⟨9729374390490840825, by decide, by decide, by kernel_rfl⟩
theorem pat21 : ∃ b, b < 2 ^ 64 ∧ 1048576 ≤ b ∧ natSum (natSeed b) ((List.range 132).map (pat 21 0)) = 0 := ⟨3844249011545161948, by decide, by decide, by kernel_rfl⟩
theorem pat22 : ∃ b, b < 2 ^ 64 ∧ 1048576 ≤ b ∧ natSum (natSeed b) ((List.range 231).map (pat 22 0)) = 0 := ⟨11617975817529741811, by decide, by decide, by kernel_rfl⟩

theorem pat_lt {e x t : Nat} (hx : x < 256) : pat e x t < 256 := by
  unfold pat; split <;> (try split) <;> (try split) <;> omega
theorem patSum {e x m i : Nat} (hx : x < 2) (hi : i < 1048576) (h : ∃ b, b < 2 ^ 64 ∧ 1048576 ≤ b ∧ natSum (natSeed b) ((List.range m).map (pat e x)) = 0) :
    sumFrom (sumSeed (i : Int)) (mapRow (pat e x) m) ≠ 0 := by
  obtain ⟨b, hb, hb2, h0⟩ := h
  rw [sumSeed_eq i (by omega), sumFrom_eq _ _ (natSeed_lt i) (mapRow_bytes fun j => pat_lt (by omega)), natsOf_map]
  have := sum_ne (l := (List.range m).map (pat e x)) (a := i) (b := b) (fun c hc => by
    obtain ⟨t, _, rfl⟩ := List.mem_map.1 hc
    have := pat_lt (e := e) (x := x) (t := t) (by omega)
    omega) (by omega) hb h0 (by omega)
  intro h
  exact this (by exact_mod_cast h)

theorem leN_two (f : Nat → Nat) : leN (mapRow f 2) = f 0 + 256 * f 1 := by
  have : mapRow f 2 = [.int .u8 (f 0 : Int), .int .u8 (f 1 : Int)] := rfl
  rw [this]; simp [leN, intOf]
theorem leN_four (f : Nat → Nat) : leN (mapRow f 4) = f 0 + 256 * (f 1 + 256 * (f 2 + 256 * f 3)) := by
  have : mapRow f 4 = [.int .u8 (f 0 : Int), .int .u8 (f 1 : Int), .int .u8 (f 2 : Int), .int .u8 (f 3 : Int)] := rfl
  rw [this]; simp [leN, intOf]
theorem leN_zero (f : Nat → Nat) (h : ∀ t, t < 8 → f t = 0) : getFrom 0 0 (mapRow f 8) = 0 := by
  rw [mapRow_congr (g := fun _ => 0) h]; rfl

theorem noRec_run {bb : Nat → Nat} {pos len z i : Nat} (hb : ∀ j, bb j < 256) (hz : z < 20000) (hi : i < z - 64) : isRec (mapRow (runVal bb pos len) z) (z - 64) i = false := by
  rw [Bool.eq_false_iff]
  intro h
  unfold isRec rdSum at h
  simp only [Bool.and_eq_true, decide_eq_true_eq] at h
  obtain ⟨⟨⟨⟨⟨⟨⟨h33, hc⟩, hk⟩, hx⟩, hK1⟩, hK2⟩, hV⟩, hS⟩ := h
  have hrv : ∀ j, runVal bb pos len j < 256 := fun j => by unfold runVal; split; exact hb _; omega
  rw [mapRow_byte (by omega)] at hc hk hx
  have eK : rdK (mapRow (runVal bb pos len) z) i = runVal bb pos len (i + 19) + 256 * runVal bb pos len (i + 20) := by
    unfold rdK
    rw [mapRow_part (by omega), leN_two]
  have eV : rdV (mapRow (runVal bb pos len) z) i = runVal bb pos len (i + 21) + 256 * (runVal bb pos len (i + 22) + 256 * (runVal bb pos len (i + 23) + 256 * runVal bb pos len (i + 24))) := by
    unfold rdV
    rw [mapRow_part (by omega), leN_four]
  -- within the run
  have hin : pos ≤ i ∧ i < pos + len := by
    unfold runVal at hc
    split at hc
    · assumption
    · exact absurd hc (by decide)
  obtain ⟨p1, p2⟩ := hin
  obtain ⟨a, ha⟩ : ∃ a, a = (i - pos) % 3 := ⟨_, rfl⟩
  obtain ⟨e, he⟩ : ∃ e, e = pos + len - i := ⟨_, rfl⟩
  have g : ∀ t, runVal bb pos len (i + t) = if t < e then bb ((a + t) % 3) else 0 := by
    intro t
    unfold runVal
    by_cases ht : t < e
    · rw [if_pos ht, if_pos (by omega)]; congr 1; omega
    · rw [if_neg ht, if_neg (by omega)]
  have g0 := g 0
  have g1 := g 1
  have g2 := g 2
  have g19 := g 19
  have g20 := g 20
  have g21 := g 21
  have g22 := g 22
  have g23 := g 23
  have g24 := g 24
  rw [show (a + 19) % 3 = (a + 1) % 3 by omega] at g19
  rw [show (a + 20) % 3 = (a + 2) % 3 by omega] at g20
  rw [show (a + 21) % 3 = (a + 0) % 3 by omega] at g21
  rw [show (a + 22) % 3 = (a + 1) % 3 by omega] at g22
  rw [Nat.add_zero] at g0
  have c0 : bb ((a + 0) % 3) = 99 := by rw [if_pos (by omega)] at g0; omega
  have e1 : 1 < e := by
    rcases Nat.lt_or_ge 1 e with h1 | h1
    · exact h1
    · rw [if_neg (by omega)] at g1; omega
  have c1 : bb ((a + 1) % 3) = 107 := by rw [if_pos e1] at g1; omega
  rw [eK] at hK1 hK2 hV hS
  rw [eV] at hV hS
  have e20 : 20 ≤ e := by
    rcases Nat.lt_or_ge e 20 with h1 | h1
    · rw [if_neg (by omega)] at g19 g20; omega
    · exact h1
  rw [if_pos (by omega)] at g19
  rw [if_pos (by omega)] at g2
  have x1 : bb ((a + 2) % 3) < 2 := by omega
  have e22 : e ≤ 22 := by
    rcases Nat.lt_or_ge 22 e with h1 | h1
    · rw [if_pos (by omega)] at g22; omega
    · exact h1
  rw [if_neg (by omega)] at g22 g23 g24
  have gp : ∀ x, bb ((a + 2) % 3) = x → ∀ t, runVal bb pos len (i + t) = pat e x t := by
    intro x hx t
    rw [g t]
    unfold pat
    split
    · by_cases t0 : t % 3 = 0
      · rw [if_pos t0, show (a + t) % 3 = (a + 0) % 3 by omega, c0]
      · rw [if_neg t0]
        by_cases t1 : t % 3 = 1
        · rw [if_pos t1, show (a + t) % 3 = (a + 1) % 3 by omega, c1]
        · rw [if_neg t1, show (a + t) % 3 = (a + 2) % 3 by omega, hx]
    · rfl
  have fin : ∀ (m x : Nat), x < 2 → bb ((a + 2) % 3) = x → 25 ≤ m → i + m + 8 ≤ z → (∃ b, b < 2 ^ 64 ∧ 1048576 ≤ b ∧ natSum (natSeed b) ((List.range m).map (pat e x)) = 0) →
      getFrom 0 0 (((mapRow (runVal bb pos len) z).drop (i + m)).take 8) = sumFrom (sumSeed (i : Int)) (((mapRow (runVal bb pos len) z).drop i).take m) → False := by
    intro m x hx hbx hm hmz hpat hs
    rw [mapRow_part hmz, mapRow_part (by omega), mapRow_congr (g := pat e x) (fun t _ => gp x hbx t), leN_zero _ (fun t _ => by
      rw [Nat.add_assoc, gp x hbx]; unfold pat; rw [if_neg (by omega)])] at hs
    exact patSum hx (by omega) hpat hs.symm
  obtain rfl | rfl | rfl : e = 20 ∨ e = 21 ∨ e = 22 := by omega
  · rw [if_neg (by omega)] at g20 g21
    rw [g19, g20, g21, g22, g23, g24, c1] at hS hV
    exact fin 132 _ x1 rfl (by omega) (by omega) (pat20 _ x1) hS
  · rw [if_pos (by omega)] at g20
    rw [if_neg (by omega)] at g21
    have hx0 : bb ((a + 2) % 3) = 0 := by omega
    rw [g19, g20, g21, g22, g23, g24, c1, hx0] at hS hV
    exact fin 132 0 (by omega) hx0 (by omega) (by omega) pat21 hS
  · rw [if_pos (by omega)] at g20 g21
    have hx0 : bb ((a + 2) % 3) = 0 := by omega
    rw [g19, g20, g21, g22, g23, g24, c1, c0, hx0] at hS hV
    exact fin 231 0 (by omega) hx0 (by omega) (by omega) pat22 hS

theorem noMark_run {bb : Nat → Nat} {pos len z i : Nat} (hi : i + 3 < z) : noMark (mapRow (runVal bb pos len) z) i = true := by
  unfold noMark
  rw [mapRow_byte (by omega), mapRow_byte (by omega), mapRow_byte (by omega), mapRow_byte (by omega)]
  rw [Bool.not_eq_true', ← Bool.not_eq_true]
  intro h
  simp only [Bool.and_eq_true, decide_eq_true_eq] at h
  obtain ⟨⟨⟨h0, h1⟩, h2⟩, h3⟩ := h
  unfold runVal at h0 h3
  split at h0
  · split at h3
    · rw [show (i + 3 - pos) % 3 = (i - pos) % 3 by omega] at h3
      omega
    · exact absurd h3 (by decide)
  · exact absurd h0 (by decide)
end Go.Xe
/-
  What is put at a disk's begin is read there; what is behind it is as it was.
-/
set_option linter.unusedVariables false
set_option linter.unusedSimpArgs false
namespace Go.Xe
open Go Go.Proofs

section
variable {c : UInt8} {vs rest : List Value} {l : Nat}
theorem img_shape : imgRow 0 1 1 c vs ++ rest = imgPre 1 1 c vs ++ (leB (sumFrom (sumSeed 0) (imgPre 1 1 c vs)).toNat 8 ++ rest) := by
  unfold imgRow; rw [List.append_assoc]; rfl
theorem img_num : getFrom 0 0 (List.take 8 (List.drop (0 + 3) (imgRow 0 1 1 c vs ++ rest))) = 1 := by kernel_rfl
theorem img_old : getFrom 0 0 (List.take 8 (List.drop (0 + 11) (imgRow 0 1 1 c vs ++ rest))) = 1 := by kernel_rfl
theorem img_K : rdK (imgRow 0 1 1 c vs ++ rest) 0 = 1 := by kernel_rfl
theorem img_V (h : vs.length < 4294967296) : rdV (imgRow 0 1 1 c vs ++ rest) 0 = vs.length := by
  have : rdV (imgRow 0 1 1 c vs ++ rest) 0 = leN (leB vs.length 4) := by kernel_rfl
  rw [this, leN_leB, Nat.mod_eq_of_lt (by omega)]
theorem img_name : bytesOf (List.take 1 (List.drop (0 + 25) (imgRow 0 1 1 c vs ++ rest))) = [c] := by
  have : bytesOf (List.take 1 (List.drop (0 + 25) (imgRow 0 1 1 c vs ++ rest))) = bytesOf (byteVals [c]) := by kernel_rfl
  rw [this]
  simp [bytesOf, byteVals, intOf]
theorem img_b0 : byteN (imgRow 0 1 1 c vs ++ rest) 0 = 99 := by kernel_rfl
theorem img_b1 : byteN (imgRow 0 1 1 c vs ++ rest) (0 + 1) = 107 := by kernel_rfl
theorem img_b2 : byteN (imgRow 0 1 1 c vs ++ rest) (0 + 2) = 0 := by kernel_rfl
theorem img_sum (hb : vs.all isByte = true) : rdSum (imgRow 0 1 1 c vs ++ rest) 0 (26 + vs.length) = true := by
  unfold rdSum
  rw [decide_eq_true_eq, img_shape, Nat.zero_add, List.drop_left' (imgPre_length 1 1 c vs), List.take_left' (leB_length _ _), List.drop_zero, List.take_left' (imgPre_length 1 1 c vs)]
  have h1 : (0 : Int) = ((0 : Nat) : Int) := rfl
  have h2 := sumFrom_eq (imgPre 1 1 c vs) (natSeed 0) (natSeed_lt 0) (imgPre_bytes 1 1 c hb)
  have h3 : sumSeed ((0 : Nat) : Int) = (natSeed 0 : Int) := sumSeed_eq 0 (by decide)
  rw [get_eq _ (by rw [leB_length]; omega) (leB_bytes _ _), leN_leB]
  have e0 : sumFrom (sumSeed 0) (imgPre 1 1 c vs) = ((natSum (natSeed 0) (natsOf (imgPre 1 1 c vs)) : Nat) : Int) := by
    rw [h1, h3, h2]
  have hlt := natSum_lt (l := natsOf (imgPre 1 1 c vs)) (natSeed_lt 0)
  rw [show (((0 : Nat) : Int)) = (0 : Int) from rfl, e0, Int.toNat_natCast, Nat.mod_eq_of_lt (by omega)]
theorem img_rec (hb : vs.all isByte = true) (hv : vs.length < 4294967296) (hl : 34 + vs.length ≤ l) : isRec (imgRow 0 1 1 c vs ++ rest) l 0 = true := by
  unfold isRec
  rw [img_b0, img_b1, img_b2, img_K, img_V hv, show 25 + 1 + vs.length = 26 + vs.length by omega, img_sum hb]
  simp only [Bool.and_eq_true, decide_eq_true_eq, Bool.and_true]
  refine ⟨⟨⟨⟨⟨⟨by omega, ?_⟩, ?_⟩, ?_⟩, ?_⟩, ?_⟩, by omega⟩ <;> first | trivial | decide
theorem img_one (hb : vs.all isByte = true) (hv : vs.length < 4294967296) (hl : 34 + vs.length ≤ l) : isOne (imgRow 0 1 1 c vs ++ rest) l c = true := by
  unfold isOne
  rw [img_rec hb hv hl, img_num, img_old, img_K, img_name, img_b2]
  simp
end

theorem byteN_drop (cs : List Value) (i k : Nat) : byteN cs (i + k) = intOf ((cs.drop i).getD k undefX) := by
  unfold byteN
  rw [List.getD_eq_getElem?_getD, List.getD_eq_getElem?_getD, List.getElem?_drop]
theorem isRec_congr {cs ds : List Value} {l i : Nat} (h : cs.drop i = ds.drop i) : isRec cs l i = isRec ds l i := by
  have hd : ∀ k, cs.drop (i + k) = ds.drop (i + k) := fun k => by rw [← List.drop_drop, ← List.drop_drop, h]
  have hb : ∀ k, byteN cs (i + k) = byteN ds (i + k) := fun k => by rw [byteN_drop, byteN_drop, h]
  have hK : rdK cs i = rdK ds i := by unfold rdK; rw [hd]
  have hV : rdV cs i = rdV ds i := by unfold rdV; rw [hd]
  have hb0 := hb 0
  rw [Nat.add_zero] at hb0
  unfold isRec rdSum
  rw [hb0, hb 1, hb 2, hK, hV, hd, h]
theorem noMark_congr {cs ds : List Value} {i : Nat} (h : cs.drop i = ds.drop i) : noMark cs i = noMark ds i := by
  have hb : ∀ k, byteN cs (i + k) = byteN ds (i + k) := fun k => by rw [byteN_drop, byteN_drop, h]
  have hb0 := hb 0
  rw [Nat.add_zero] at hb0
  unfold noMark
  rw [hb0, hb 1, hb 2, hb 3]

/-- the disk behind the Put -/
def putDisk (cs : List Value) (c : UInt8) (vs : List Value) : List Value := imgRow 0 1 1 c vs ++ cs.drop (34 + vs.length)
theorem putDisk_drop (cs : List Value) (c : UInt8) (vs : List Value) {i : Nat} (h : 34 + vs.length ≤ i) : (putDisk cs c vs).drop i = cs.drop i := by
  unfold putDisk
  rw [List.drop_append, List.drop_eq_nil_of_le (by rw [imgRow_length]; exact h), List.nil_append, imgRow_length, List.drop_drop]
  congr 1; omega
theorem putDisk_length {cs : List Value} (c : UInt8) {vs : List Value} (h : 34 + vs.length ≤ cs.length) : (putDisk cs c vs).length = cs.length := by
  unfold putDisk
  rw [List.length_append, imgRow_length, List.length_drop]; omega
theorem putDisk_bytes {cs : List Value} (c : UInt8) {vs : List Value} (h1 : cs.all isByte = true) (h2 : vs.all isByte = true) : (putDisk cs c vs).all isByte = true := by
  unfold putDisk
  rw [List.all_append, imgRow_bytes 0 1 1 c h2, Bool.true_and]
  rw [List.all_eq_true] at h1 ⊢
  exact fun v hv => h1 v (List.mem_of_mem_drop hv)
theorem splice_put (cs : List Value) (c : UInt8) (vs : List Value) : splice cs 0 (imgRow 0 1 1 c vs) = putDisk cs c vs := by
  unfold splice putDisk
  rw [List.take_zero, List.nil_append, imgRow_length, Nat.zero_add]

/-- the disk with a run of bytes -/
def runDisk (z pos : Nat) (bs : List Value) : List Value := splice (List.replicate z (.int .u8 0)) pos bs
theorem runDisk_is {z pos o n : Nat} {cs : List Value} (hb : cs.all isByte = true) (h : pos + n ≤ z) (ho : ∀ i, i < n → o + i % 3 < cs.length) :
    runDisk z pos (plainRow cs o n) = mapRow (runVal (fun t => (intOf (cs.getD (o + t) undefX)).toNat) pos n) z := by
  unfold runDisk splice
  apply List.ext_getElem?
  intro i
  rw [plainRow_length]
  simp only [mapRow, List.getElem?_map, List.take_replicate, List.drop_replicate]
  rw [Nat.min_eq_left (by omega)]
  by_cases h1 : i < pos
  · rw [List.append_assoc, List.getElem?_append_left (by simp; omega), List.getElem?_replicate, if_pos h1, List.getElem?_range (by omega)]
    simp only [Option.map_some, runVal]
    rw [if_neg (by omega)]; rfl
  · by_cases h2 : i < pos + n
    · rw [List.append_assoc, List.getElem?_append_right (by simp; omega), List.length_replicate, List.getElem?_append_left (by rw [plainRow_length]; omega), List.getElem?_range (by omega)]
      unfold plainRow
      rw [List.getElem?_map, List.getElem?_range (by omega)]
      simp only [Option.map_some, runVal]
      rw [if_pos (by omega)]
      obtain ⟨m, _, e⟩ := isByte_nat (byte_at hb (ho (i - pos) (by omega)))
      rw [e]
      simp [intOf]
    · by_cases h3 : i < z
      · rw [List.getElem?_append_right (by simp [plainRow_length]; omega), List.getElem?_replicate, if_pos (by simp [plainRow_length]; omega), List.getElem?_range h3]
        simp only [Option.map_some, runVal]
        rw [if_neg (by omega)]; rfl
      · rw [List.getElem?_eq_none (by simp [plainRow_length]; omega), List.getElem?_eq_none (by simp; omega)]; rfl
end Go.Xe
/-
  CacheOpens: its parts, one after the other.
-/
set_option linter.unusedVariables false
set_option linter.unusedSimpArgs false
namespace Go.Xe
open Go Go.Proofs

def flat1 : Value → Bool
  | .bool _ | .int _ _ | .string _ | .pointer _ | .slice _ _ _ | .map _ | .nilFunc | .nilIface => true
  | _ => false
def flatA : Value → Bool
  | .agg a => a.toList.all flat1
  | v => flat1 v
def flatV : Value → Bool
  | .agg a => a.toList.all flat1
  | .tuple a => a.toList.all flatA
  | v => flat1 v
theorem flat1_same {v : Value} (h : flat1 v = true) : same1 v v = true := by
  cases v with
  | pointer p => cases p <;> simp [same1]
  | slice p a b => cases p <;> simp [same1]
  | map p => cases p <;> simp [same1]
  | string s => simp [same1, beqBytes_self]
  | bool b => simp [same1]
  | int k n => simp [same1]
  | nilFunc => rfl
  | nilIface => rfl
  | _ => simp [flat1] at h
theorem flatL_same : ∀ {l : List Value}, l.all flat1 = true → sameL l l = true
  | [], _ => rfl
  | v :: r, h => by
    simp only [List.all_cons, Bool.and_eq_true] at h
    simp only [sameL, flat1_same h.1, flatL_same h.2, Bool.and_self]
theorem flatA_same {v : Value} (h : flatA v = true) : sameA v v = true := by
  unfold flatA at h
  split at h
  · exact flatL_same h
  · have := flat1_same h
    cases v <;> first | exact this | (simp [flat1] at h; done)
theorem flatM_same : ∀ {l : List Value}, l.all flatA = true → sameM l l = true
  | [], _ => rfl
  | v :: r, h => by
    simp only [List.all_cons, Bool.and_eq_true] at h
    simp only [sameM, flatA_same h.1, flatM_same h.2, Bool.and_self]
theorem same_of {v : Value} (h : flatV v = true) : same v v = true := by
  unfold flatV at h
  split at h
  · exact flatL_same h
  · exact flatM_same h
  · have := flat1_same h
    cases v <;> first | exact this | (simp [flat1] at h; done)

def gW : Ent := .row [.slice (some ⟨1, 0, none⟩) 12 12] 0 true
def gV (ws : List Value) : Ent := .row ws 1 true
def LowO (m : Nat) (o : Option Ent) : Prop := ∀ e, o = some e → ∀ π, Keeps m π → RenE π e e
theorem get_tri {g0 g1 : Ent} {eb ev : Option Ent} {l : List (Nat × Ent)} {n i : Nat} {e : Ent} (h : (tri g0 g1 eb ev l n).heap.get i = some e) :
    (i = 0 ∧ e = g0) ∨ (i = 1 ∧ e = g1) ∨ (i = 2 ∧ eb = some e) ∨ (i = 3 ∧ ev = some e) ∨ (i, e) ∈ l := by
  rcases get_putL l _ i e h with h1 | h1
  · rw [PT.get_set] at h1
    split at h1
    · rename_i hi; exact .inr (.inr (.inr (.inl ⟨hi, h1⟩)))
    · rw [PT.get_set] at h1
      split at h1
      · rename_i hi; exact .inr (.inr (.inl ⟨hi, h1⟩))
      · rw [PT.get_set] at h1
        split at h1
        · rename_i hi; cases h1; exact .inr (.inl ⟨hi, rfl⟩)
        · rw [PT.get_set] at h1
          split at h1
          · rename_i hi; cases h1; exact .inl ⟨hi, rfl⟩
          · simp [PT.get] at h1
  · exact .inr (.inr (.inr (.inr h1)))
theorem Kept.tri {ws : List Value} {eb ev : Option Ent} {l : List (Nat × Ent)} {m : Nat} {S : St} (hw : ws.all plain1 = true) (h0 : S.heap.get 0 = some gW) (h1 : S.heap.get 1 = some (gV ws)) (h2 : ∀ e, eb = some e → S.heap.get 2 = some e) (h3 : ∀ e, ev = some e → S.heap.get 3 = some e)
    (hb : LowO m eb) (hv : LowO m ev) (hl : ∀ p ∈ l, S.heap.get p.1 = some p.2 ∧ p.1 < m ∧ ∀ π, Keeps m π → RenE π p.2 p.2) (hm : 4 ≤ m) (hS : m ≤ S.next) (hg : S.glob = 1) : Kept m (Go.Xe.tri gW (gV ws) eb ev l m) S :=
  ⟨fun i e hi => by
    rcases get_tri hi with ⟨rfl, rfl⟩ | ⟨rfl, rfl⟩ | ⟨rfl, he⟩ | ⟨rfl, he⟩ | h
    · exact ⟨h0, by omega, fun π hk => lowE_ren (m := 4) (fun j hj => hk j (by omega)) rfl⟩
    · exact ⟨h1, by omega, fun π hk => .plain hw⟩
    · exact ⟨h2 e he, by omega, hb e he⟩
    · exact ⟨h3 e he, by omega, hv e he⟩
    · exact hl (i, e) h, rfl, hS, hg.symm, by show 1 ≤ m; omega⟩

theorem code3 : codeOf Tryd.prog 3 = appL [sub (codeOf Tryd.prog 3) [0], sub (codeOf Tryd.prog 3) [1, 0]] (appL [sub (codeOf Tryd.prog 3) [1, 1, 0], sub (codeOf Tryd.prog 3) [1, 1, 1, 0]] (.seq (sub (codeOf Tryd.prog 3) [1, 1, 1, 1, 0])
    (appL [sub (codeOf Tryd.prog 3) [1, 1, 1, 1, 1, 0], sub (codeOf Tryd.prog 3) [1, 1, 1, 1, 1, 1, 0]] (appL [sub (codeOf Tryd.prog 3) [1, 1, 1, 1, 1, 1, 1, 0], sub (codeOf Tryd.prog 3) [1, 1, 1, 1, 1, 1, 1, 1, 0]]
      (.seq (sub (codeOf Tryd.prog 3) [1, 1, 1, 1, 1, 1, 1, 1, 1, 0]) (.seq (sub (codeOf Tryd.prog 3) [1, 1, 1, 1, 1, 1, 1, 1, 1, 1, 0])
        (appL [sub (codeOf Tryd.prog 3) [1, 1, 1, 1, 1, 1, 1, 1, 1, 1, 1, 0], sub (codeOf Tryd.prog 3) [1, 1, 1, 1, 1, 1, 1, 1, 1, 1, 1, 1, 0]] (.seq (sub (codeOf Tryd.prog 3) [1, 1, 1, 1, 1, 1, 1, 1, 1, 1, 1, 1, 1, 0]) (sub (codeOf Tryd.prog 3) [1, 1, 1, 1, 1, 1, 1, 1, 1, 1, 1, 1, 1, 1]))))))))) := by kernel_rfl
theorem body3 : Tryd.f3.body = some (codeOf Tryd.prog 3) := by kernel_rfl
theorem okOrcN : OrcSound Tryd.prog orcN := fun f F h => by
  unfold orcN at h
  split at h
  · cases h; rename_i hf; subst hf; exact openNoneF_sound
  · exact okOrc3 f F h
theorem okOrcB : OrcSound Tryd.prog orcB := fun f F h => by
  unfold orcB at h
  split at h
  · cases h; rename_i hf; subst hf; exact plainFn_sound
  · split at h
    · cases h; rename_i hf; subst hf; exact openNoneF_sound
    · exact okOrc3 f F h
theorem okOrcO : OrcSound Tryd.prog orcO := fun f F h => by
  unfold orcO at h
  split at h
  · cases h; rename_i hf; subst hf; exact openOneF_sound 107
  · exact okOrc3 f F h
theorem yxB : YX ycB (xgoO Tryd.prog okN orcB kp 100) := ygo_is orcB kp 100
theorem yxN : YX ycN (xgoO Tryd.prog okN orcN kp 100) := ygo_is orcN kp 100
theorem yxO : YX ycO (xgoO Tryd.prog okN orcO kp 100) := ygo_is orcO kp 100
theorem callB : CallSound Tryd.prog (xgoO Tryd.prog okN orcB kp 100) := xgoO_sound mixed okN_ok okN_good okOrcB kp 100
theorem callN : CallSound Tryd.prog (xgoO Tryd.prog okN orcN kp 100) := xgoO_sound mixed okN_ok okN_good okOrcN kp 100
theorem callO : CallSound Tryd.prog (xgoO Tryd.prog okN orcO kp 100) := xgoO_sound mixed okN_ok okN_good okOrcO kp 100
end Go.Xe
/-
  A function that looks at the package's words alone.
-/
set_option linter.unusedVariables false
namespace Go.Xe
open Go Go.Proofs

theorem words_call {f : FuncId} {fn : Func} {c : Code} (hf : Tryd.prog.funcs[f]? = some fn) (hb : fn.body = some c) {a' : XAct} {S' : St} {ws : List Value} (hw : ws.all plain1 = true)
    (h : SR Tryd.prog c (startX fn []) (tri gW (gV ws) none none [] 4) .ret a' S') (hv : xres Tryd.prog fn a' S' = some (.bool true))
    {α : Place} {S : St} {w : World} {args' : Array Value} (hr : Rel α S w) (ha : LRel α [] args'.toList) (h0 : S.heap.get 0 = some gW) (h1 : S.heap.get 1 = some (gV ws)) (hg : 1 ≤ S.glob) :
    Calls Tryd.prog f args' w fun e w' => ∃ β v', e = .returned v' ∧ Next α S w β S w' ∧ VRel β (.bool true) v' := by
  let π : Nat → Nat := fun i => if i < 2 then i else S.next
  have hk : Keeps 2 π := fun j hj => if_pos hj
  have hnone : α S.next = none := hr.unused
  have some_lt : ∀ i l, α (π i) = some l → i < 2 ∧ α i = some l := fun i l hl => by
    by_cases hi : i < 2
    · exact ⟨hi, by rw [← hk i hi]; exact hl⟩
    · have : π i = S.next := if_neg hi
      rw [this, hnone] at hl; cases hl
  have hent : ∀ i e, (tri gW (gV ws) none none [] 4).heap.get i = some e → (i = 0 ∧ e = gW) ∨ (i = 1 ∧ e = gV ws) := fun i e hi => by
    rcases get_tri hi with h | h | ⟨_, h⟩ | ⟨_, h⟩ | h
    · exact .inl h
    · exact .inr h
    · cases h
    · cases h
    · simp at h
  have hro : ∀ i e, (tri gW (gV ws) none none [] 4).heap.get i = some e → e.ro = true := fun i e hi => by
    rcases hent i e hi with ⟨_, rfl⟩ | ⟨_, rfl⟩ <;> rfl
  have hsm : Rel (fun i => α (π i)) (tri gW (gV ws) none none [] 4) w := by
    refine ⟨fun i e hi => ?_, fun i j e g l m hij hi hj hroo hl hm => ?_, fun i l hl => ?_, fun i l hl => hr.size _ l hl, fun i l hi hl => ?_, Nat.le_of_ble_eq_true rfl⟩
    · rcases hent i e hi with ⟨rfl, rfl⟩ | ⟨rfl, rfl⟩
      · obtain ⟨l, hl, he⟩ := hr.ent 0 _ h0
        exact ⟨l, by show α (π 0) = _; rw [hk 0 (by omega)]; exact hl, ((lowE_ren hk rfl : RenE π gW gW).rel α w l).2 he⟩
      · obtain ⟨l, hl, he⟩ := hr.ent 1 _ h1
        exact ⟨l, by show α (π 1) = _; rw [hk 1 (by omega)]; exact hl, ((RenE.plain hw : RenE π (gV ws) (gV ws)).rel α w l).2 he⟩
    · rw [hro i e hi, hro j g hj] at hroo
      rcases hroo with h | h <;> cases h
    · have := (some_lt i l hl).1
      show i < 4; omega
    · exact hr.glob i l (Nat.lt_of_lt_of_le hi hg) (some_lt i l hl).2
  refine (SR.calls (f := f) (fn := fn) hf hb h (.inr rfl) hv hsm (args' := args') ⟨ha.1, fun i v v' hi => by simp at hi⟩).mono ?_
  rintro x w' ⟨β, v', rfl, hn, hvr⟩
  have hsame : ∀ b, b < w.heap.size → w'.heap[b]? = w.heap[b]? := fun b hb => hn.frame.block b hb (fun i e l hi he => by rw [hro i e hi] at he; cases he)
  refine ⟨α, v', rfl, ⟨.refl α, ⟨fun i e hi => ?_, hr.apart, hr.fresh, fun i l hl => Nat.lt_of_lt_of_le (hr.size i l hl) hn.frame.size, hr.glob, hr.gle⟩, ⟨hn.frame.size, fun b hb _ => hsame b hb, hn.frame.os, hn.frame.tape, hn.frame.output⟩,
    fun j g m hj hg' hm => .inr ⟨j, g, m, hj, hg', hm, rfl⟩, Nat.le_refl _, rfl, fun _ _ => rfl, fun i e hi _ => ⟨e, hi⟩, fun i e hi _ => hi⟩, ?_⟩
  · obtain ⟨l, hl, he⟩ := hr.ent i e hi
    exact ⟨l, hl, he.of_block (hsame l.blk (hr.size i l hl))⟩
  · cases hvr; exact .bool _
end Go.Xe
/-
  CacheOpens: from Get to the end.
-/
set_option linter.unusedVariables false
set_option linter.unusedSimpArgs false
namespace Go.Xe
open Go Go.Proofs

theorem slot_sl (l : List (Nat × Value)) {i : Nat} {v : Value} (h : slot (sl l) i = some v) : (i, v) ∈ l := by
  unfold sl at h
  have key : ∀ (l : List (Nat × Value)) (a : XAct), (∀ i v, slot a i = some v → False) ∨ True → slot (l.foldl (fun a p => a.set p.1 (some p.2)) a) i = some v → slot a i = some v ∨ (i, v) ∈ l := by
    intro l
    induction l with
    | nil => intro a _ h; exact .inl h
    | cons p r ih =>
      intro a _ h
      rcases ih (a.set p.1 (some p.2)) (.inr trivial) h with h1 | h1
      · rw [slot_set] at h1
        split at h1
        · rename_i hi; cases h1; exact .inr (by simp [← hi.1])
        · exact .inl h1
      · exact .inr (by simp [h1])
  rcases key l _ (.inr trivial) h with h1 | h1
  · exfalso
    unfold slot at h1
    rw [List.getElem?_replicate] at h1
    split at h1
    · rename_i x hx
      split at hx
      · cases hx; cases h1
      · cases hx
    · cases h1
  · exact h1
theorem sl_ren {l : List (Nat × Value)} {m : Nat} (h : ∀ p ∈ l, ∀ π, Keeps m π → RenV π p.2 p.2) : ∀ i v, slot (sl l) i = some v → ∀ π, Keeps m π → RenV π v v :=
  fun i v hv => h (i, v) (slot_sl l hv)
theorem sl_low {l : List (Nat × Value)} {m : Nat} (h : l.all (fun p => low m p.2) = true) : ∀ i v, slot (sl l) i = some v → ∀ π, Keeps m π → RenV π v v :=
  sl_ren fun p hp π hk => low_ren hk (List.all_eq_true.1 h p hp)

/-- The code comes to its end, and gives true. -/
def Ends (c : Code) (a : XAct) (S : St) : Prop := ∃ a' S', SR Tryd.prog c a S .ret a' S' ∧ xres Tryd.prog Tryd.f3 a' S' = some (.bool true)
noncomputable abbrev cK : Code := sub (codeOf Tryd.prog 3) [1, 1, 1, 1, 1, 1, 1, 1, 1, 1, 1, 1, 1, 1]
noncomputable abbrev lJ : List Code := [sub (codeOf Tryd.prog 3) [1, 1, 1, 1, 1, 1, 1, 1, 1, 1, 1, 1, 1, 0]]
noncomputable abbrev lH : List Code := [sub (codeOf Tryd.prog 3) [1, 1, 1, 1, 1, 1, 1, 1, 1, 1, 1, 0], sub (codeOf Tryd.prog 3) [1, 1, 1, 1, 1, 1, 1, 1, 1, 1, 1, 1, 0]]
noncomputable abbrev lG : List Code := [sub (codeOf Tryd.prog 3) [1, 1, 1, 1, 1, 1, 1, 1, 1, 1, 0]]
noncomputable abbrev lF : List Code := [sub (codeOf Tryd.prog 3) [1, 1, 1, 1, 1, 1, 1, 1, 1, 0]]
noncomputable abbrev lE : List Code := [sub (codeOf Tryd.prog 3) [1, 1, 1, 1, 1, 1, 1, 0], sub (codeOf Tryd.prog 3) [1, 1, 1, 1, 1, 1, 1, 1, 0]]
noncomputable abbrev lC : List Code := [sub (codeOf Tryd.prog 3) [1, 1, 1, 1, 1, 0], sub (codeOf Tryd.prog 3) [1, 1, 1, 1, 1, 1, 0]]
noncomputable abbrev lP : List Code := [sub (codeOf Tryd.prog 3) [1, 1, 1, 1, 0]]
noncomputable abbrev lN : List Code := [sub (codeOf Tryd.prog 3) [1, 1, 0], sub (codeOf Tryd.prog 3) [1, 1, 1, 0]]
noncomputable abbrev lA : List Code := [sub (codeOf Tryd.prog 3) [0], sub (codeOf Tryd.prog 3) [1, 0]]

theorem goodJ : goodCode (seqs lJ) = true := by kernel_rfl
theorem goodH : goodCode (seqs lH) = true := by kernel_rfl
theorem goodG : goodCode (seqs lG) = true := by kernel_rfl
theorem goodF : goodCode (seqs lF) = true := by kernel_rfl
theorem goodE : goodCode (seqs lE) = true := by kernel_rfl
theorem goodC : goodCode (seqs lC) = true := by kernel_rfl
theorem goodP : goodCode (seqs lP) = true := by kernel_rfl
theorem goodN : goodCode (seqs lN) = true := by kernel_rfl
theorem goodA : goodCode (seqs lA) = true := by kernel_rfl
theorem Ends.more {okF : FuncId → Bool} {call : XCall} {fg : Nat → Option Nat} {l : List Code} {z : Code} {a a1 b : XAct} {S S1 T : St} (hC : CallSound Tryd.prog call) (hF : OkF Tryd.prog okF) (hl : l ≠ []) (hg : goodCode (seqs l) = true)
    (h : Runs Tryd.prog okF call fg (seqs l) a S .normal a1 S1) (mv : Moves S a1 S1 b T) (h' : Ends z b T) : Ends (appL l z) a S := by
  obtain ⟨a', S', h1, h2⟩ := h'
  exact ⟨a', S', SR.partsM mixed hF hC hl hg h mv h1, h2⟩

theorem Ends.one {okF : FuncId → Bool} {call : XCall} {fg : Nat → Option Nat} {c z : Code} {a a1 b : XAct} {S S1 T : St} (hC : CallSound Tryd.prog call) (hF : OkF Tryd.prog okF) (hg : goodCode c = true)
    (h : Runs Tryd.prog okF call fg c a S .normal a1 S1) (mv : Moves S a1 S1 b T) (h' : Ends z b T) : Ends (.seq c z) a S :=
  Ends.more (l := [c]) (z := z) hC hF (List.cons_ne_nil _ _) hg h mv h'
noncomputable abbrev cJ : Code := sub (codeOf Tryd.prog 3) [1, 1, 1, 1, 1, 1, 1, 1, 1, 1, 1, 1, 1, 0]
noncomputable abbrev cG : Code := sub (codeOf Tryd.prog 3) [1, 1, 1, 1, 1, 1, 1, 1, 1, 1, 0]
noncomputable abbrev cF : Code := sub (codeOf Tryd.prog 3) [1, 1, 1, 1, 1, 1, 1, 1, 1, 0]
noncomputable abbrev cP : Code := sub (codeOf Tryd.prog 3) [1, 1, 1, 1, 0]
theorem good_cJ : goodCode cJ = true := by kernel_rfl
theorem good_cG : goodCode cG = true := by kernel_rfl
theorem good_cF : goodCode cF = true := by kernel_rfl
theorem good_cP : goodCode cP = true := by kernel_rfl

/-- alive is known, and the words are there. -/
def KOk (K : Nat) (ws : List Value) : Prop := OrcSound Tryd.prog (orcK K) ∧ sameL ws wordsL = true
section
variable {K : Nat} {ws : List Value} (hK : KOk K ws) {vs us : List Value} {lv o l cap : Nat}
include hK
theorem endK (hvs : vs.all isByte = true) (hlv : lv = vs.length) (hus : us.all isByte = true) (hl : o + l ≤ us.length) (heq : (us.drop o).take l = vs) :
    Ends cK (sl [(15, .slice (some ⟨16, 0, none⟩) lv lv), (20, .slice (some ⟨313, o, none⟩) l cap), (21, .int .i64 0)]) (tri gW (gV ws) none none [(16, byteRow vs), (313, byteRow us)] 314) := by
  have hc : CallSound Tryd.prog (xgoO Tryd.prog okN (orcK K) kp 100) := xgoO_sound mixed okN_ok okN_good hK.1 kp 100
  have hy : YX (ycK K) (xgoO Tryd.prog okN (orcK K) kp 100) := ygo_is (orcK K) kp 100
  have hlen : l = lv := by rw [hlv, ← heq, List.length_take, List.length_drop]; omega
  by_cases hz : lv = 0
  · have h := topK0 lv o l cap K ws vs us
    exact ⟨_, _, SR.of mixed okN_ok hc (by kernel_rfl) (Runs.path hy h (by rw [hK.2, decide_eq_true (by omega : l = 0), decide_eq_true hz]; rfl)), by kernel_rfl⟩
  · have h := topK lv o l cap K ws vs us
    refine ⟨_, _, SR.of mixed okN_ok hc (by kernel_rfl) (Runs.path hy h ?_), by kernel_rfl⟩
    have e1 : List.take lv (List.drop 0 vs) = vs := by rw [List.drop_zero, hlv, List.take_length]
    rw [hK.2, e1, heq, beqBytes_self, bytes_ints hvs, decide_eq_false (by omega : ¬ l = 0), decide_eq_true hl, decide_eq_false hz, decide_eq_true (by omega : 0 + lv ≤ vs.length)]
    rfl
end
end Go.Xe
/-
  CacheOpens: Get.
-/
set_option linter.unusedVariables false
set_option linter.unusedSimpArgs false
namespace Go.Xe
open Go Go.Proofs

section
variable {K : Nat} {ws : List Value} (hK : KOk K ws) {vs cs rest : List Value} {z q : Nat} {sz hd : Int}
include hK
theorem endJ (hw : ws.all plain1 = true) (hvs : vs.all isByte = true) (hcs : cs = imgRow 0 1 1 107 vs ++ rest) (hr : rest.all isByte = true) (hz : cs.length = z) (hz2 : z < 2 ^ 40) (hq : q = vs.length) (hq2 : q ≤ 300) :
    Ends (.seq cJ cK) (sl [(15, .slice (some ⟨16, 0, none⟩) q q), (18, .pointer (some ⟨56, 0, none⟩)), (96, .bool false)])
      (tri gW (gV ws) none none [(16, byteRow vs), (20, byteRow cs), (27, diskAt 20 22 z), (55, .map [⟨.string ⟨#[107]⟩, .agg (recCells 107 q).toArray, 0⟩] 1 false), (56, cacheAt 27 55 sz (.slice (some ⟨296, 0, none⟩) 1 1) 2 hd)] 297) := by
  have hb : cs.all isByte = true := by rw [hcs, List.all_append, imgRow_bytes 0 1 1 107 hvs, hr]; rfl
  have hlz : 34 + q ≤ z := by rw [← hz, hcs, List.length_append, imgRow_length]; omega
  have hU : List.take (34 + q) cs = imgRow 0 1 1 107 vs := by rw [hcs, hq]; exact List.take_left' (imgRow_length _ _ _ _ _)
  have hUb := imgRow_bytes 0 1 1 107 hvs
  have hUl : (imgRow 0 1 1 107 vs).length = 34 + q := by rw [imgRow_length, hq]
  have hrec : isRec (imgRow 0 1 1 107 vs) (34 + q) 0 = true := by
    have := img_rec (c := 107) (rest := []) (l := 34 + q) hvs (by omega) (by omega)
    rwa [List.append_nil] at this
  have e1 : IntKind.wrap IntKind.i64 (0 + ((34 + q : Nat) : Int)) = ((34 + q : Nat) : Int) := by rw [Int.zero_add]; exact wrap64 (by omega) (by omega)
  have e2 : IntKind.wrap IntKind.i64 ((z : Int) - 0) = (z : Int) := by rw [Int.sub_zero]; exact wrap64 (by omega) (by omega)
  have e3 : IntKind.wrap IntKind.i64 (((34 + q : Nat) : Int) - 8) = ((26 + q : Nat) : Int) := by rw [wrap64 (by omega) (by omega)]; omega
  have e4 : IntKind.wrap IntKind.i64 (((26 + q : Nat) : Int) - (q : Int)) = ((26 : Nat) : Int) := by rw [wrap64 (by omega) (by omega)]; omega
  have e5 : IntKind.wrap IntKind.i64 ((34 + q : Nat) : Int) = ((34 + q : Nat) : Int) := wrap64 (by omega) (by omega)
  have hsp : splice (zerosL [Value.int IntKind.u8 0] (34 + q)) 0 (imgRow 0 1 1 107 vs) = imgRow 0 1 1 107 vs := by
    unfold splice
    rw [zerosL_rep, List.take_zero, List.nil_append, List.drop_eq_nil_of_le (by rw [List.length_replicate, hUl]; omega), List.append_nil]
  have hzz : List.take 0 (zerosL [Value.int IntKind.u8 0] 0) = [] := rfl
  have hT : List.take (34 + q) (imgRow 0 1 1 107 vs) = imgRow 0 1 1 107 vs := by rw [← hUl, List.take_length]
  have f1 : getFrom 0 0 (List.take 8 (List.drop 3 (imgRow 0 1 1 107 vs))) = 1 := by
    have := img_num (c := 107) (vs := vs) (rest := []); rwa [List.append_nil] at this
  have f3 : rdK (imgRow 0 1 1 107 vs) 0 = 1 := by
    have := img_K (c := 107) (vs := vs) (rest := []); rwa [List.append_nil] at this
  have f4 : rdV (imgRow 0 1 1 107 vs) 0 = q := by
    have := img_V (c := 107) (vs := vs) (rest := []) (by omega); rw [List.append_nil] at this; rw [this, hq]
  have f5 : bytesOf (List.take 1 (List.drop 25 (imgRow 0 1 1 107 vs))) = [107] := by
    have := img_name (c := 107) (vs := vs) (rest := []); rwa [List.append_nil] at this
  have f6 : byteN (imgRow 0 1 1 107 vs) 2 = 0 := by
    have := img_b2 (c := 107) (vs := vs) (rest := []); rwa [List.append_nil] at this
  have f7 : decide (0 < (z : Int)) = true := decide_eq_true (by omega)
  have f8 : (zerosL [Value.int .u8 0] (34 + q)).all one = true := by rw [zerosL_rep]; exact ones_bytes (rep_bytes _)
  have f9 : (zerosL [Value.int .u8 0] (34 + q)).length = 34 + q := by rw [zerosL_rep, List.length_replicate]
  have f10 : same (readV' (imgRow 0 1 1 107 vs) 0 true) (readV' (imgRow 0 1 1 107 vs) 0 true) = true := same_of (by kernel_rfl)
  have f11 : (!decide ((0 : Int) = 1) == false) = false := rfl
  have o1 : ∀ s, one (.string s) = true := fun _ => rfl
  have o2 : ∀ b, one (.bool b) = true := fun _ => rfl
  have h := topJ z q q sz hd cs vs gW (gV ws)
  simp only [e1, Int.toNat_natCast, Nat.sub_zero, Nat.zero_add, Nat.mul_one, List.drop_zero, List.take_zero, List.nil_append, e2, e3, e4, e5, hU, hT, hsp, hrec, if_true, Bool.true_and] at h
  have hc : CallSound Tryd.prog (xgoO Tryd.prog okN orcN kp 100) := callN
  refine Ends.one (c := cJ) (z := cK) (okF := okN) (fg := kp 3) hc okN_ok good_cJ (Runs.path yxN h ?_) (Moves.kept (m := 314) (Kept.tri (l := [(16, byteRow vs), (313, byteRow (imgRow 0 1 1 107 vs))]) (eb := none) (ev := none) hw ?_ ?_ (by simp) (by simp) (by intro e he; cases he) (by intro e he; cases he) ?_ (by omega) ?_ rfl) ?_ ?_) (endK hK (o := 26) (l := 26 + q - 26) (cap := 34 + q - 26) hvs hq (us := imgRow 0 1 1 107 vs) hUb (by rw [hUl]; omega) ?_)
  · simp only [f10]
    simp only [f1, f3, f11, o1, o2, f4, f5, f6, f7, f8, f9, hUl, hUb, ones_bytes hUb, hz, recOf, recCells, same, sameL, same1, sameM, sameA, beqBytes_self, decide_true, beq_self_eq_true, if_true, Bool.true_and, Bool.and_true, Bool.not_true, Bool.not_false, Bool.and_self, Nat.zero_add, List.length_cons, List.length_nil, List.all_cons, List.all_nil, oneInt,
      Bool.and_eq_true, decide_eq_true_eq, Bool.not_eq_true', decide_eq_false_iff_not, true_and, and_true]
    omega
  · kernel_rfl
  · kernel_rfl
  · intro p hp
    simp only [List.mem_cons, List.not_mem_nil, or_false] at hp
    rcases hp with rfl | rfl
    · exact ⟨by kernel_rfl, Nat.le_of_ble_eq_true rfl, fun π hk => bytes_ren hvs π⟩
    · exact ⟨by kernel_rfl, Nat.le_of_ble_eq_true rfl, fun π hk => bytes_ren hUb π⟩
  · exact Nat.le_of_ble_eq_true rfl
  · exact Nat.le_of_ble_eq_true rfl
  · exact sl_low (by kernel_rfl)
  · rw [show 26 + q - 26 = q by omega]
    have hp : imgRow 0 1 1 107 vs = imgPre 1 1 107 vs ++ leB (sumFrom (sumSeed ((0 : Nat) : Int)) (imgPre 1 1 107 vs)).toNat 8 := rfl
    have hp2 : (imgPre 1 1 107 vs).drop 26 = vs := rfl
    rw [hp, List.drop_append, hp2, hq]
    exact List.take_left' rfl
end
end Go.Xe
/-
  CacheOpens: the new disk, and Open.
-/
set_option linter.unusedVariables false
set_option linter.unusedSimpArgs false
namespace Go.Xe
open Go Go.Proofs

section
variable {K : Nat} {ws : List Value} (hK : KOk K ws) {vs cs rest : List Value} {z q : Nat}
include hK
theorem endH (hw : ws.all plain1 = true) (hvs : vs.all isByte = true) (hcs : cs = imgRow 0 1 1 107 vs ++ rest) (hr : rest.all isByte = true) (hz : cs.length = z) (hz1 : 4096 ≤ z) (hz2 : z < 20000) (hq : q = vs.length) (hq2 : q ≤ 300)
    (hm1 : noMark cs (z - 64) = true) (hm2 : noMark cs (z - 32) = true) (hno : noRecs cs (z - 64) (34 + q) = true) :
    Ends (appL lH (.seq cJ cK)) (sl [(9, .int .i64 (z : Int)), (10, .pointer (some ⟨12, 0, none⟩)), (15, .slice (some ⟨16, 0, none⟩) q q), (16, .int .i64 0), (17, .int .i64 0)])
      (tri gW (gV ws) none none [(5, byteRow cs), (12, diskAt 5 7 z), (16, byteRow vs)] 17) := by
  have hb : cs.all isByte = true := by rw [hcs, List.all_append, imgRow_bytes 0 1 1 107 hvs, hr]; rfl
  have hV : rdV cs 0 = q := by rw [hcs, img_V (by omega), hq]
  have hone : isOne cs (z - 64) 107 = true := by rw [hcs]; exact img_one hvs (by omega) (by omega)
  have e1 : IntKind.wrap IntKind.i64 (0 + (z : Int)) = (z : Int) := by rw [Int.zero_add]; exact wrap64 (by omega) (by omega)
  have e2 : IntKind.wrap IntKind.i64 ((z : Int) - 0) = (z : Int) := by rw [Int.sub_zero]; exact wrap64 (by omega) (by omega)
  have e3 : IntKind.wrap IntKind.i64 (z : Int) = (z : Int) := wrap64 (by omega) (by omega)
  have hT : List.take z cs = cs := by rw [← hz, List.take_length]
  have hsp : splice (zerosL [Value.int IntKind.u8 0] z) 0 cs = cs := by
    unfold splice
    rw [zerosL_rep, List.take_zero, List.nil_append, List.drop_eq_nil_of_le (by rw [List.length_replicate]; omega), List.append_nil]
  have f7 : decide (0 < (z : Int)) = true := decide_eq_true (by omega)
  have f8 : (zerosL [Value.int .u8 0] z).all one = true := by rw [zerosL_rep]; exact ones_bytes (rep_bytes _)
  have f9 : (zerosL [Value.int .u8 0] z).length = z := by rw [zerosL_rep, List.length_replicate]
  have o1 : ∀ s, one (.string s) = true := fun _ => rfl
  have o2 : ∀ b, one (.bool b) = true := fun _ => rfl
  have h := topH z q cs vs gW (gV ws)
  simp only [e1, Int.toNat_natCast, Nat.sub_zero, Nat.zero_add, Nat.mul_one, List.drop_zero, List.take_zero, List.nil_append, e2, e3, hT, hsp, hV] at h
  refine Ends.more (l := lH) (z := .seq cJ cK) (okF := okN) (fg := kp 3) callO okN_ok (List.cons_ne_nil _ _) goodH (Runs.path yxO h ?_) (Moves.kept (m := 297) (Kept.tri (l := [(16, byteRow vs), (20, byteRow cs), (27, diskAt 20 22 z), (55, .map [⟨.string ⟨#[107]⟩, .agg (recCells 107 q).toArray, 0⟩] 1 false), (56, cacheAt 27 55 ((z - 64 : Nat) : Int) (.slice (some ⟨296, 0, none⟩) 1 1) 2 ((34 + q : Nat) : Int))]) (eb := none) (ev := none) hw ?_ ?_ (by simp) (by simp) (by intro e he; cases he) (by intro e he; cases he) ?_ (by omega) ?_ rfl) ?_ ?_) (endJ hK (sz := ((z - 64 : Nat) : Int)) (hd := ((34 + q : Nat) : Int)) hw hvs hcs hr hz (by omega) hq hq2)
  · repeat rw [same_of]
    · simp only [f7, hone, hm1, hm2, hno, hb, hV, f8, f9, ones_bytes hb, hz, diskAt, cacheAt, decide_true, beq_self_eq_true, if_true, List.length_set, Bool.true_and, Bool.and_true, Bool.not_true, Bool.not_false, Bool.and_self, Nat.zero_add, List.length_cons, List.length_nil, List.all_cons, List.all_nil, oneInt, o1, o2,
        Bool.and_eq_true, decide_eq_true_eq, Bool.not_eq_true', decide_eq_false_iff_not, true_and, and_true]
      omega
    all_goals rfl
  · kernel_rfl
  · kernel_rfl
  · intro p hp
    simp only [List.mem_cons, List.not_mem_nil, or_false] at hp
    rcases hp with rfl | rfl | rfl | rfl | rfl
    · exact ⟨by kernel_rfl, Nat.le_of_ble_eq_true rfl, fun π hk => bytes_ren hvs π⟩
    · exact ⟨by kernel_rfl, Nat.le_of_ble_eq_true rfl, fun π hk => bytes_ren hb π⟩
    · exact ⟨by kernel_rfl, Nat.le_of_ble_eq_true rfl, fun π hk => lowE_ren hk rfl⟩
    · exact ⟨by kernel_rfl, Nat.le_of_ble_eq_true rfl, fun π hk => lowE_ren hk rfl⟩
    · exact ⟨by kernel_rfl, Nat.le_of_ble_eq_true rfl, fun π hk => lowE_ren hk rfl⟩
  · exact Nat.le_of_ble_eq_true rfl
  · exact Nat.le_of_ble_eq_true rfl
  · exact sl_low (by kernel_rfl)
end
end Go.Xe
/-
  CacheOpens: Put.
-/
set_option linter.unusedVariables false
set_option linter.unusedSimpArgs false
namespace Go.Xe
open Go Go.Proofs

section
variable {K : Nat} {ws : List Value} (hK : KOk K ws) {vs cs ls : List Value} {z q : Nat}
include hK
theorem endG (hw : ws.all plain1 = true) (hvs : vs.all isByte = true) (hb : cs.all isByte = true) (hl : ls.all isByte = true) (hz : cs.length = z) (hlz : ls.length = z) (hz1 : 4096 ≤ z) (hz2 : z < 20000) (hq : q = vs.length) (hq2 : q ≤ 300)
    (hm1 : noMark cs (z - 64) = true) (hm2 : noMark cs (z - 32) = true) (hno : ∀ i, i < z - 64 → isRec cs (z - 64) i = false) :
    Ends (.seq cG (appL lH (.seq cJ cK))) (sl [(9, .int .i64 (z : Int)), (10, .pointer (some ⟨12, 0, none⟩)), (13, .pointer (some ⟨15, 0, none⟩)), (15, .slice (some ⟨16, 0, none⟩) q q)])
      (tri gW (gV ws) none none [(5, byteRow cs), (7, byteRow ls), (12, diskAt 5 7 z), (14, .map [] 0 false), (15, cacheAt 12 14 ((z - 64 : Nat) : Int) (.slice none 0 0) 1 0), (16, byteRow vs)] 17) := by
  have hpb := putDisk_bytes 107 hb hvs
  have hpl : (putDisk cs 107 vs).length = z := by rw [putDisk_length 107 (by omega), hz]
  have e1 : IntKind.wrap IntKind.i64 (34 + (q : Int)) = ((34 + q : Nat) : Int) := wrapAdd (a := 34) (by omega)
  have e2 : IntKind.wrap IntKind.i64 (0 + ((34 + q : Nat) : Int)) = ((34 + q : Nat) : Int) := by rw [Int.zero_add]; exact wrap64 (by omega) (by omega)
  have e3 : IntKind.wrap IntKind.i64 ((z : Int) - 0) = (z : Int) := by rw [Int.sub_zero]; exact wrap64 (by omega) (by omega)
  have e4 : IntKind.wrap IntKind.i64 (((z - 64 : Nat) : Int) + 64) = ((z : Nat) : Int) := by rw [wrap64 (by omega) (by omega)]; omega
  have e5 : IntKind.wrap IntKind.i64 (1 + (q : Int)) = ((1 + q : Nat) : Int) := wrapAdd (a := 1) (by omega)
  have e6 : IntKind.wrap IntKind.i64 (Int.tdiv (z : Int) 4) = ((z / 4 : Nat) : Int) := by
    rw [show Int.tdiv (z : Int) 4 = ((z / 4 : Nat) : Int) from (Int.ofNat_tdiv z 4).symm]; exact wrap64 (by omega) (by omega)
  have e7 : IntKind.wrap IntKind.i64 (((z / 4 : Nat) : Int) - 64) = ((z / 4 - 64 : Nat) : Int) := by rw [wrap64 (by omega) (by omega)]; omega
  have hTv : List.take q vs = vs := by rw [hq, List.take_length]
  have hIl : (imgRow 0 1 1 107 vs).length = 34 + q := by rw [imgRow_length, hq]
  have hTi : List.take (26 + q + 8) (imgRow 0 1 1 107 vs) = imgRow 0 1 1 107 vs := List.take_of_length_le (by omega)
  have hTz : List.take z (putDisk cs 107 vs) = putDisk cs 107 vs := by rw [← hpl, List.take_length]
  have hsl : splice ls 0 (putDisk cs 107 vs) = putDisk cs 107 vs := by
    unfold splice
    rw [List.take_zero, List.nil_append, List.drop_eq_nil_of_le (by omega), List.append_nil]
  have h := topG z q ((z - 64 : Nat) : Int) cs ls vs gW (gV ws)
  simp only [e1, e2, e3, e4, e5, e6, e7, hTv, hTi, splice_put, hTz, hsl, Int.toNat_natCast, Nat.sub_zero, Nat.zero_add, Nat.mul_one, List.drop_zero, List.take_zero, List.nil_append] at h
  have f7 : decide (0 < (z : Int)) = true := decide_eq_true (by omega)
  have o1 : ∀ s, one (.string s) = true := fun _ => rfl
  have o2 : ∀ b, one (.bool b) = true := fun _ => rfl
  have hIb := imgRow_bytes 0 1 1 107 hvs
  refine Ends.one (c := cG) (z := appL lH (.seq cJ cK)) (okF := okN) (fg := kp 3) callN okN_ok good_cG (Runs.path yxN h ?_) (Moves.kept (m := 17) (Kept.tri (l := [(5, byteRow (putDisk cs 107 vs)), (12, diskAt 5 7 z), (16, byteRow vs)]) (eb := none) (ev := none) hw ?_ ?_ (by simp) (by simp) (by intro e he; cases he) (by intro e he; cases he) ?_ (by omega) ?_ rfl) ?_ ?_) (endH hK (rest := cs.drop (34 + vs.length)) hw hvs rfl ?_ hpl hz1 hz2 hq hq2 ?_ ?_ ?_)
  · repeat rw [same_of]
    · simp only [f7, hb, hl, hpb, hvs, hIb, ones_bytes hIb, ones_bytes hpb, ones_bytes hb, hz, hlz, hpl, hIl, diskAt, cacheAt, decide_true, beq_self_eq_true, if_true, List.length_set, Bool.true_and, Bool.and_true, Bool.not_true, Bool.not_false, Bool.and_self, Nat.zero_add, List.length_cons, List.length_nil, List.all_cons, List.all_nil, oneInt, o1, o2,
        Bool.and_eq_true, decide_eq_true_eq, Bool.not_eq_true', decide_eq_false_iff_not, true_and, and_true]
      omega
    all_goals rfl
  · kernel_rfl
  · kernel_rfl
  · intro p hp
    simp only [List.mem_cons, List.not_mem_nil, or_false] at hp
    rcases hp with rfl | rfl | rfl
    · exact ⟨by kernel_rfl, Nat.le_of_ble_eq_true rfl, fun π hk => bytes_ren hpb π⟩
    · exact ⟨by kernel_rfl, Nat.le_of_ble_eq_true rfl, fun π hk => lowE_ren hk rfl⟩
    · exact ⟨by kernel_rfl, Nat.le_of_ble_eq_true rfl, fun π hk => bytes_ren hvs π⟩
  · exact Nat.le_of_ble_eq_true rfl
  · exact Nat.le_of_ble_eq_true rfl
  · exact sl_low (by kernel_rfl)
  · rw [List.all_eq_true] at hb ⊢
    exact fun v hv => hb v (List.mem_of_mem_drop hv)
  · rw [noMark_congr (putDisk_drop cs 107 vs (by omega))]; exact hm1
  · rw [noMark_congr (putDisk_drop cs 107 vs (by omega))]; exact hm2
  · rw [noRecs_is]
    intro i h1 h2
    rw [isRec_congr (putDisk_drop cs 107 vs (by omega))]
    exact hno i h2
end
end Go.Xe
/-
  CacheOpens: the value, and the first Open.
-/
set_option linter.unusedVariables false
set_option linter.unusedSimpArgs false
namespace Go.Xe
open Go Go.Proofs

noncomputable abbrev zG : Code := .seq cG (appL lH (.seq cJ cK))
/-- a value that comes in: nil, or a slice of bytes at a block -/
def valE (b : Nat) : Value → Option Ent → List Value → Nat → Prop := fun v e cs l =>
  (v = .slice none 0 0 ∧ e = none ∧ l = 0 ∧ cs = []) ∨ (∃ c ro, v = .slice (some ⟨b, 0, none⟩) l c ∧ e = some (.row cs 1 ro) ∧ l ≤ cs.length ∧ l ≤ c)

section
variable {K : Nat} {ws : List Value} (hK : KOk K ws) {vs cs ls : List Value} {z lv : Nat} {vv : Value} {ev : Option Ent}
include hK
theorem endF (hw : ws.all plain1 = true) (hv : valE 3 vv ev vs lv) (hvs : vs.all isByte = true) (hlv : lv < 2 ^ 40) (hb : cs.all isByte = true) (hl : ls.all isByte = true) (hz : cs.length = z) (hlz : ls.length = z) (hz1 : 4096 ≤ z) (hz2 : z < 20000)
    (hm1 : noMark cs (z - 64) = true) (hm2 : noMark cs (z - 32) = true) (hno : ∀ i, i < z - 64 → isRec cs (z - 64) i = false) :
    Ends (.seq cF zG) (sl [(3, vv), (9, .int .i64 (z : Int)), (10, .pointer (some ⟨12, 0, none⟩)), (13, .pointer (some ⟨15, 0, none⟩)), (63, .bool false)])
      (tri gW (gV ws) none ev [(5, byteRow cs), (7, byteRow ls), (12, diskAt 5 7 z), (14, .map [] 0 false), (15, cacheAt 12 14 ((z - 64 : Nat) : Int) (.slice none 0 0) 1 0)] 16) := by
  have key := fun (us : List Value) (q : Nat) (h1 : us.all isByte = true) (h2 : q = us.length) (h3 : q ≤ 300) => endG hK (vs := us) (q := q) hw h1 hb hl hz hlz hz1 hz2 h2 h3 hm1 hm2 hno
  have kept : ∀ (us : List Value) (S : St), us.all isByte = true → S.heap.get 0 = some gW → S.heap.get 1 = some (gV ws) → (S.heap.get 5 = some (byteRow cs) ∧ S.heap.get 7 = some (byteRow ls) ∧ S.heap.get 12 = some (diskAt 5 7 z) ∧ S.heap.get 14 = some (.map [] 0 false) ∧ S.heap.get 15 = some (cacheAt 12 14 ((z - 64 : Nat) : Int) (.slice none 0 0) 1 0) ∧ S.heap.get 16 = some (byteRow us)) → 17 ≤ S.next → S.glob = 1 →
      Kept 17 (tri gW (gV ws) none none [(5, byteRow cs), (7, byteRow ls), (12, diskAt 5 7 z), (14, .map [] 0 false), (15, cacheAt 12 14 ((z - 64 : Nat) : Int) (.slice none 0 0) 1 0), (16, byteRow us)] 17) S := by
    intro us S hu h0 h1 hh hn hg
    refine Kept.tri hw h0 h1 (by simp) (by simp) (by intro e he; cases he) (by intro e he; cases he) (fun p hp => ?_) (by omega) hn hg
    obtain ⟨g5, g7, g12, g14, g15, g16⟩ := hh
    simp only [List.mem_cons, List.not_mem_nil, or_false] at hp
    rcases hp with rfl | rfl | rfl | rfl | rfl | rfl
    · exact ⟨g5, Nat.le_of_ble_eq_true rfl, fun π hk => bytes_ren hb π⟩
    · exact ⟨g7, Nat.le_of_ble_eq_true rfl, fun π hk => bytes_ren hl π⟩
    · exact ⟨g12, Nat.le_of_ble_eq_true rfl, fun π hk => lowE_ren hk rfl⟩
    · exact ⟨g14, Nat.le_of_ble_eq_true rfl, fun π hk => lowE_ren hk rfl⟩
    · exact ⟨g15, Nat.le_of_ble_eq_true rfl, fun π hk => lowE_ren hk rfl⟩
    · exact ⟨g16, Nat.le_of_ble_eq_true rfl, fun π hk => bytes_ren hu π⟩
  rcases hv with ⟨rfl, rfl, rfl, rfl⟩ | ⟨c, ro, rfl, rfl, hle, hlc⟩
  · have h := topVn z ((z - 64 : Nat) : Int) cs ls gW (gV ws)
    refine Ends.one (c := cF) (z := zG) (okF := okN) (fg := kp 3) callN okN_ok good_cF (Runs.path yxN h (by kernel_rfl)) (Moves.kept (m := 17) (kept [] _ rfl (by kernel_rfl) (by kernel_rfl) ⟨by kernel_rfl, by kernel_rfl, by kernel_rfl, by kernel_rfl, by kernel_rfl, by kernel_rfl⟩ (Nat.le_of_ble_eq_true rfl) rfl) (Nat.le_of_ble_eq_true rfl) (sl_low (by kernel_rfl))) (key [] 0 rfl rfl (by omega))
  · by_cases hz0 : lv = 0
    · subst hz0
      have h := topV0 z 0 c ((z - 64 : Nat) : Int) cs ls vs ro gW (gV ws)
      refine Ends.one (c := cF) (z := zG) (okF := okN) (fg := kp 3) callN okN_ok good_cF (Runs.path yxN h ?_) (Moves.kept (m := 17) (kept [] _ rfl (by kernel_rfl) (by kernel_rfl) ⟨by kernel_rfl, by kernel_rfl, by kernel_rfl, by kernel_rfl, by kernel_rfl, by kernel_rfl⟩ (Nat.le_of_ble_eq_true rfl) rfl) (Nat.le_of_ble_eq_true rfl) (sl_low (by kernel_rfl))) (key [] 0 rfl rfl (by omega))
      have hm0 : (if 300 < ((0 : Nat) : Int) then (300 : Int) else ((0 : Nat) : Int)) = ((0 : Nat) : Int) := rfl
      rw [hm0, decide_eq_true (by omega : ((0 : Nat) : Int) ≤ (c : Int))]
      rfl
    · have h := topV z lv c ((z - 64 : Nat) : Int) cs ls vs ro gW (gV ws)
      have hmin : (if 300 < (lv : Int) then (300 : Int) else (lv : Int)) = ((min lv 300 : Nat) : Int) := by split <;> omega
      have hzz : List.take 0 (zerosL [Value.int IntKind.u8 0] 0) = [] := rfl
      simp only [hmin, hzz, Int.toNat_natCast, Nat.sub_zero, Nat.zero_add, Nat.mul_one, List.drop_zero, List.nil_append] at h
      have hub : (vs.take (min lv 300)).all isByte = true := by have := take_bytes hvs 0 (min lv 300); rwa [List.drop_zero] at this
      have hul : (vs.take (min lv 300)).length = min lv 300 := by rw [List.length_take]; omega
      have h1 : decide ((0 : Int) ≤ ((min lv 300 : Nat) : Int)) = true := decide_eq_true (by omega)
      have h2 : decide (((min lv 300 : Nat) : Int) ≤ (c : Int)) = true := decide_eq_true (by omega)
      let π : Nat → Nat := fun j => if j < 16 then j else j + 1
      have hk : Keeps 16 π := fun j hj => if_pos hj
      have hpi : ∀ j, π j = j ∧ j < 16 ∨ π j = j + 1 ∧ 16 ≤ j := fun j => by
        by_cases hj : j < 16
        · exact .inl ⟨if_pos hj, hj⟩
        · exact .inr ⟨if_neg hj, by omega⟩
      refine Ends.one (c := cF) (z := zG) (okF := okN) (fg := kp 3) callN okN_ok good_cF (Runs.path yxN h ?_)
        (Moves.named (b := sl [(9, .int .i64 (z : Int)), (10, .pointer (some ⟨12, 0, none⟩)), (13, .pointer (some ⟨15, 0, none⟩)), (15, .slice (some ⟨16, 0, none⟩) (min lv 300) (min lv 300))])
          (T := tri gW (gV ws) none none [(5, byteRow cs), (7, byteRow ls), (12, diskAt 5 7 z), (14, .map [] 0 false), (15, cacheAt 12 14 ((z - 64 : Nat) : Int) (.slice none 0 0) 1 0), (16, byteRow (vs.take (min lv 300)))] 17) (π := π) ?_ (by kernel_rfl) ?_) (key (vs.take (min lv 300)) (min lv 300) hub hul.symm (by omega))
      · simp only [h1, h2, hub, hzz, List.nil_append, ones_bytes hub, Bool.true_and, Bool.and_true, Bool.and_eq_true, decide_eq_true_eq, Bool.not_eq_true', decide_eq_false_iff_not, true_and, and_true]
        omega
      · refine ⟨fun j hj => hk j hj, fun j e hj => ?_, fun i j e f hi hj hij => ?_, fun j hj => ?_, Nat.le_of_ble_eq_true rfl, rfl, Nat.le_of_ble_eq_true rfl, fun j hj => hk j (by have : j < 1 := hj; omega)⟩
        · rcases get_tri hj with ⟨rfl, rfl⟩ | ⟨rfl, rfl⟩ | ⟨rfl, he⟩ | ⟨rfl, he⟩ | hm
          · exact ⟨Nat.le_of_ble_eq_true rfl, gW, by kernel_rfl, lowE_ren hk rfl, fun _ => ⟨rfl, rfl⟩⟩
          · exact ⟨Nat.le_of_ble_eq_true rfl, gV ws, by kernel_rfl, .plain hw, fun _ => ⟨rfl, rfl⟩⟩
          · cases he
          · cases he
          · simp only [List.mem_cons, List.not_mem_nil, or_false, Prod.mk.injEq] at hm
            rcases hm with ⟨rfl, rfl⟩ | ⟨rfl, rfl⟩ | ⟨rfl, rfl⟩ | ⟨rfl, rfl⟩ | ⟨rfl, rfl⟩ | ⟨rfl, rfl⟩
            · exact ⟨Nat.le_of_ble_eq_true rfl, byteRow cs, by kernel_rfl, bytes_ren hb π, fun _ => ⟨rfl, rfl⟩⟩
            · exact ⟨Nat.le_of_ble_eq_true rfl, byteRow ls, by kernel_rfl, bytes_ren hl π, fun _ => ⟨rfl, rfl⟩⟩
            · exact ⟨Nat.le_of_ble_eq_true rfl, diskAt 5 7 z, by kernel_rfl, lowE_ren hk rfl, fun _ => ⟨rfl, rfl⟩⟩
            · exact ⟨Nat.le_of_ble_eq_true rfl, .map [] 0 false, by kernel_rfl, lowE_ren hk rfl, fun _ => ⟨rfl, rfl⟩⟩
            · exact ⟨Nat.le_of_ble_eq_true rfl, cacheAt 12 14 ((z - 64 : Nat) : Int) (.slice none 0 0) 1 0, by kernel_rfl, lowE_ren hk rfl, fun _ => ⟨rfl, rfl⟩⟩
            · exact ⟨Nat.le_of_ble_eq_true rfl, byteRow (vs.take (min lv 300)), by kernel_rfl, bytes_ren hub π, fun h => absurd (show 17 < 16 from h) (by omega)⟩
        · rcases hpi i with ⟨a, b⟩ | ⟨a, b⟩ <;> rcases hpi j with ⟨c', d⟩ | ⟨c', d⟩ <;> omega
        · have h17 : 17 ≤ j := hj
          show 18 ≤ π j
          rcases hpi j with ⟨a, b⟩ | ⟨a, b⟩ <;> omega
      · intro i v hv
        have := slot_sl _ hv
        simp only [List.mem_cons, List.not_mem_nil, or_false, Prod.mk.injEq] at this
        rcases this with ⟨rfl, rfl⟩ | ⟨rfl, rfl⟩ | ⟨rfl, rfl⟩ | ⟨rfl, rfl⟩
        · exact ⟨.int .i64 (z : Int), by kernel_rfl, .int _ _⟩
        · exact ⟨.pointer (some ⟨12, 0, none⟩), by kernel_rfl, low_ren (m := 16) hk rfl⟩
        · exact ⟨.pointer (some ⟨15, 0, none⟩), by kernel_rfl, low_ren (m := 16) hk rfl⟩
        · exact ⟨.slice (some ⟨17, 0, none⟩) (min lv 300) (min lv 300), by kernel_rfl, RenV.slice (π := π) 16 0 _ _⟩
end
end Go.Xe
/-
  CacheOpens: the first disk.
-/
set_option linter.unusedVariables false
set_option linter.unusedSimpArgs false
namespace Go.Xe
open Go Go.Proofs

noncomputable abbrev zF : Code := .seq cF zG
noncomputable abbrev zE : Code := appL lE zF
theorem valE_low {b m l : Nat} {v : Value} {e : Option Ent} {cs : List Value} (h : valE b v e cs l) (hb : cs.all isByte = true) (hm : b < m) : LowO m e ∧ ∀ π, Keeps m π → RenV π v v := by
  rcases h with ⟨rfl, rfl, _, _⟩ | ⟨c, ro, rfl, rfl, _, _⟩
  · exact ⟨fun e he => (by cases he), fun π hk => .plain1 rfl⟩
  · refine ⟨fun e he π hk => (by cases he; exact bytes_ren hb π), fun π hk => ?_⟩
    have := RenV.slice (π := π) b 0 l c
    rwa [hk b hm] at this

section
variable {K : Nat} {ws : List Value} (hK : KOk K ws) {vs cs ls bs : List Value} {z lv lb : Nat} {vv : Value} {ev : Option Ent} {at0 : Int}
include hK
theorem endE (hw : ws.all plain1 = true) (hv : valE 3 vv ev vs lv) (hvs : vs.all isByte = true) (hlv : lv < 2 ^ 40) (hb : cs.all isByte = true) (hl : ls.all isByte = true) (hz : cs.length = z) (hlz : ls.length = z) (hz1 : 4096 ≤ z) (hz2 : z < 20000)
    (hm1 : noMark cs (z - 64) = true) (hm2 : noMark cs (z - 32) = true) (hno : ∀ i, i < z - 64 → isRec cs (z - 64) i = false) :
    Ends zE (sl [(3, vv), (9, .int .i64 (z : Int)), (10, .pointer (some ⟨12, 0, none⟩)), (52, .bool false)]) (tri gW (gV ws) none ev [(5, byteRow cs), (7, byteRow ls), (12, diskAt 5 7 z)] 14) := by
  have h := topE z cs ls vv gW (gV ws) ev
  obtain ⟨hlow, hvv⟩ := valE_low (m := 16) hv hvs (by omega)
  have hn0 : noRecs cs (z - 64) 0 = true := noRecs_is.2 fun i _ hi => hno i hi
  refine Ends.more (l := lE) (z := zF) (okF := okN) (fg := kp 3) callN okN_ok (List.cons_ne_nil _ _) goodE (Runs.path yxN h ?_) (Moves.kept (m := 16) (Kept.tri (l := [(5, byteRow cs), (7, byteRow ls), (12, diskAt 5 7 z), (14, .map [] 0 false), (15, cacheAt 12 14 ((z - 64 : Nat) : Int) (.slice none 0 0) 1 0)]) (eb := none) (ev := ev) hw ?_ ?_ (by simp) ?_ (by intro e he; cases he) hlow ?_ (by omega) ?_ rfl) ?_ ?_) (endF hK hw hv hvs hlv hb hl hz hlz hz1 hz2 hm1 hm2 hno)
  · simp only [hb, hm1, hm2, hn0, hz, Bool.true_and, Bool.and_true, Bool.not_true, Bool.not_false, Bool.and_self, Nat.zero_add, Bool.and_eq_true, decide_eq_true_eq, Bool.not_eq_true', decide_eq_false_iff_not, true_and, and_true]
    omega
  · kernel_rfl
  · kernel_rfl
  · intro e he; subst he; kernel_rfl
  · intro p hp
    simp only [List.mem_cons, List.not_mem_nil, or_false] at hp
    rcases hp with rfl | rfl | rfl | rfl | rfl
    · exact ⟨by kernel_rfl, Nat.le_of_ble_eq_true rfl, fun π hk => bytes_ren hb π⟩
    · exact ⟨by kernel_rfl, Nat.le_of_ble_eq_true rfl, fun π hk => bytes_ren hl π⟩
    · exact ⟨by kernel_rfl, Nat.le_of_ble_eq_true rfl, fun π hk => lowE_ren hk rfl⟩
    · exact ⟨by kernel_rfl, Nat.le_of_ble_eq_true rfl, fun π hk => lowE_ren hk rfl⟩
    · exact ⟨by kernel_rfl, Nat.le_of_ble_eq_true rfl, fun π hk => lowE_ren hk rfl⟩
  · exact Nat.le_of_ble_eq_true rfl
  · exact Nat.le_of_ble_eq_true rfl
  · refine sl_ren fun p hp π hk => ?_
    simp only [List.mem_cons, List.not_mem_nil, or_false] at hp
    rcases hp with rfl | rfl | rfl | rfl | rfl
    · exact hvv π hk
    all_goals exact low_ren (m := 16) hk rfl
end
end Go.Xe
