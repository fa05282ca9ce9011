/- A part of the proof. -/
import Derived.Test.YtkhjbbigangbdaaGreatDoorM11
import Derived.Test.YtkhjbbigangbdaaGreatDoorM10
set_option linter.all false
namespace Go.Xe
open Go Go.Proofs
section
variable {c : UInt8} {vs rest : List Value} {l : Nat}
theorem img_shape : imgRow 0 1 1 c vs ++ rest = imgPre 1 1 c vs ++ (leB (sumFrom (sumSeed 0) (imgPre 1 1 c vs)).toNat 8 ++ rest) := by
 unfold imgRow; rw [List.append_assoc]; rfl
theorem img_num : getFrom 0 0 (List.take 8 (List.drop (0 + 3) (imgRow 0 1 1 c vs ++ rest))) = 1 := by kernel_rfl
theorem img_old : getFrom 0 0 (List.take 8 (List.drop (0 + 11) (imgRow 0 1 1 c vs ++ rest))) = 1 := by kernel_rfl
theorem img_K : rdK (imgRow 0 1 1 c vs ++ rest) 0 = 1 := by kernel_rfl
theorem img_V (h : vs.length < 4294967296) : rdV (imgRow 0 1 1 c vs ++ rest) 0 = vs.length := by
 have : rdV (imgRow 0 1 1 c vs ++ rest) 0 = leN (leB vs.length 4) := by kernel_rfl
 rw [this, leN_leB, Nat.mod_eq_of_lt (by omega)]
theorem img_name : bytesOf (List.take 1 (List.drop (0 + 25) (imgRow 0 1 1 c vs ++ rest))) = [c] := by
 have : bytesOf (List.take 1 (List.drop (0 + 25) (imgRow 0 1 1 c vs ++ rest))) = bytesOf (byteVals [c]) := by kernel_rfl
 rw [this]
 simp [bytesOf, byteVals, intOf]
theorem img_b0 : byteN (imgRow 0 1 1 c vs ++ rest) 0 = 99 := by kernel_rfl
theorem img_b1 : byteN (imgRow 0 1 1 c vs ++ rest) (0 + 1) = 107 := by kernel_rfl
theorem img_b2 : byteN (imgRow 0 1 1 c vs ++ rest) (0 + 2) = 0 := by kernel_rfl
theorem img_sum (hb : vs.all isByte = true) : rdSum (imgRow 0 1 1 c vs ++ rest) 0 (26 + vs.length) = true := by
 unfold rdSum
 rw [decide_eq_true_eq, img_shape, Nat.zero_add, List.drop_left' (imgPre_length 1 1 c vs), List.take_left' (leB_length _ _), List.drop_zero, List.take_left' (imgPre_length 1 1 c vs)]
 have h1 : (0 : Int) = ((0 : Nat) : Int) := rfl
 have h2 := sumFrom_eq (imgPre 1 1 c vs) (natSeed 0) (natSeed_lt 0) (imgPre_bytes 1 1 c hb)
 have h3 : sumSeed ((0 : Nat) : Int) = (natSeed 0 : Int) := sumSeed_eq 0 (by decide)
 rw [get_eq _ (by rw [leB_length]; omega) (leB_bytes _ _), leN_leB]
 have e0 : sumFrom (sumSeed 0) (imgPre 1 1 c vs) = ((natSum (natSeed 0) (natsOf (imgPre 1 1 c vs)) : Nat) : Int) := by
  rw [h1, h3, h2]
 have hlt := natSum_lt (l := natsOf (imgPre 1 1 c vs)) (natSeed_lt 0)
 rw [show (((0 : Nat) : Int)) = (0 : Int) from rfl, e0, Int.toNat_natCast, Nat.mod_eq_of_lt (by omega)]
theorem img_rec (hb : vs.all isByte = true) (hv : vs.length < 4294967296) (hl : 34 + vs.length ≤ l) : isRec (imgRow 0 1 1 c vs ++ rest) l 0 = true := by
 unfold isRec
 rw [img_b0, img_b1, img_b2, img_K, img_V hv, show 25 + 1 + vs.length = 26 + vs.length by omega, img_sum hb]
 simp only [Bool.and_eq_true, decide_eq_true_eq, Bool.and_true]
 refine ⟨⟨⟨⟨⟨⟨by omega, ?_⟩, ?_⟩, ?_⟩, ?_⟩, ?_⟩, by omega⟩ <;> first | trivial | decide
theorem img_one (hb : vs.all isByte = true) (hv : vs.length < 4294967296) (hl : 34 + vs.length ≤ l) : isOne (imgRow 0 1 1 c vs ++ rest) l c = true := by
 unfold isOne
 rw [img_rec hb hv hl, img_num, img_old, img_K, img_name, img_b2]
 simp
end
theorem byteN_drop (cs : List Value) (i k : Nat) : byteN cs (i + k) = intOf ((cs.drop i).getD k undefX) := by
 unfold byteN
 rw [List.getD_eq_getElem?_getD, List.getD_eq_getElem?_getD, List.getElem?_drop]
theorem isRec_congr {cs ds : List Value} {l i : Nat} (h : cs.drop i = ds.drop i) : isRec cs l i = isRec ds l i := by
 have hd : ∀ k, cs.drop (i + k) = ds.drop (i + k) := fun k => by rw [← List.drop_drop, ← List.drop_drop, h]
 have hb : ∀ k, byteN cs (i + k) = byteN ds (i + k) := fun k => by rw [byteN_drop, byteN_drop, h]
 have hK : rdK cs i = rdK ds i := by unfold rdK; rw [hd]
 have hV : rdV cs i = rdV ds i := by unfold rdV; rw [hd]
 have hb0 := hb 0
 rw [Nat.add_zero] at hb0
 unfold isRec rdSum
 rw [hb0, hb 1, hb 2, hK, hV, hd, h]
theorem noMark_congr {cs ds : List Value} {i : Nat} (h : cs.drop i = ds.drop i) : noMark cs i = noMark ds i := by
 have hb : ∀ k, byteN cs (i + k) = byteN ds (i + k) := fun k => by rw [byteN_drop, byteN_drop, h]
 have hb0 := hb 0
 rw [Nat.add_zero] at hb0
 unfold noMark
 rw [hb0, hb 1, hb 2, hb 3]
def putDisk (cs : List Value) (c : UInt8) (vs : List Value) : List Value := imgRow 0 1 1 c vs ++ cs.drop (34 + vs.length)
theorem putDisk_drop (cs : List Value) (c : UInt8) (vs : List Value) {i : Nat} (h : 34 + vs.length ≤ i) : (putDisk cs c vs).drop i = cs.drop i := by
 unfold putDisk
 rw [List.drop_append, List.drop_eq_nil_of_le (by rw [imgRow_length]; exact h), List.nil_append, imgRow_length, List.drop_drop]
 congr 1; omega
theorem putDisk_length {cs : List Value} (c : UInt8) {vs : List Value} (h : 34 + vs.length ≤ cs.length) : (putDisk cs c vs).length = cs.length := by
 unfold putDisk
 rw [List.length_append, imgRow_length, List.length_drop]; omega
theorem putDisk_bytes {cs : List Value} (c : UInt8) {vs : List Value} (h1 : cs.all isByte = true) (h2 : vs.all isByte = true) : (putDisk cs c vs).all isByte = true := by
 unfold putDisk
 rw [List.all_append, imgRow_bytes 0 1 1 c h2, Bool.true_and]
 rw [List.all_eq_true] at h1 ⊢
 exact fun v hv => h1 v (List.mem_of_mem_drop hv)
theorem splice_put (cs : List Value) (c : UInt8) (vs : List Value) : splice cs 0 (imgRow 0 1 1 c vs) = putDisk cs c vs := by
 unfold splice putDisk
 rw [List.take_zero, List.nil_append, imgRow_length, Nat.zero_add]
def runDisk (z pos : Nat) (bs : List Value) : List Value := splice (List.replicate z (.int .u8 0)) pos bs
theorem runDisk_is {z pos o n : Nat} {cs : List Value} (hb : cs.all isByte = true) (h : pos + n ≤ z) (ho : ∀ i, i < n → o + i % 3 < cs.length) :
 runDisk z pos (plainRow cs o n) = mapRow (runVal (fun t => (intOf (cs.getD (o + t) undefX)).toNat) pos n) z := by
 unfold runDisk splice
 apply List.ext_getElem?
 intro i
 rw [plainRow_length]
 simp only [mapRow, List.getElem?_map, List.take_replicate, List.drop_replicate]
 rw [Nat.min_eq_left (by omega)]
 by_cases h1 : i < pos
 ·rw [List.append_assoc, List.getElem?_append_left (by simp; omega), List.getElem?_replicate, if_pos h1, List.getElem?_range (by omega)]
  simp only [Option.map_some, runVal]
  rw [if_neg (by omega)]; rfl
 ·by_cases h2 : i < pos + n
  ·rw [List.append_assoc, List.getElem?_append_right (by simp; omega), List.length_replicate, List.getElem?_append_left (by rw [plainRow_length]; omega), List.getElem?_range (by omega)]
   unfold plainRow
   rw [List.getElem?_map, List.getElem?_range (by omega)]
   simp only [Option.map_some, runVal]
   rw [if_pos (by omega)]
   obtain ⟨m, _, e⟩ := isByte_nat (byte_at hb (ho (i - pos) (by omega)))
   rw [e]
   simp [intOf]
  ·by_cases h3 : i < z
   ·rw [List.getElem?_append_right (by simp [plainRow_length]; omega), List.getElem?_replicate, if_pos (by simp [plainRow_length]; omega), List.getElem?_range h3]
    simp only [Option.map_some, runVal]
    rw [if_neg (by omega)]; rfl
   ·rw [List.getElem?_eq_none (by simp [plainRow_length]; omega), List.getElem?_eq_none (by simp; omega)]; rfl
def flat1 : Value → Bool
 | .bool _ | .int _ _ | .string _ | .pointer _ | .slice _ _ _ | .map _ | .nilFunc | .nilIface => true
 | _ => false
def flatA : Value → Bool
 | .agg a => a.toList.all flat1
 | v => flat1 v
def flatV : Value → Bool
 | .agg a => a.toList.all flat1
 | .tuple a => a.toList.all flatA
 | v => flat1 v
theorem flat1_same {v : Value} (h : flat1 v = true) : same1 v v = true := by
 cases v with
 | pointer p => cases p <;> simp [same1]
 | slice p a b => cases p <;> simp [same1]
 | map p => cases p <;> simp [same1]
 | string s => simp [same1, beqBytes_self]
 | bool b => simp [same1]
 | int k n => simp [same1]
 | nilFunc => rfl
 | nilIface => rfl
 | _ => simp [flat1] at h
theorem flatL_same : ∀ {l : List Value}, l.all flat1 = true → sameL l l = true
 | [], _ => rfl
 | v :: r, h => by
  simp only [List.all_cons, Bool.and_eq_true] at h
  simp only [sameL, flat1_same h.1, flatL_same h.2, Bool.and_self]
theorem flatA_same {v : Value} (h : flatA v = true) : sameA v v = true := by
 unfold flatA at h
 split at h
 ·exact flatL_same h
 ·have := flat1_same h
  cases v <;> first | exact this | (simp [flat1] at h; done)
theorem flatM_same : ∀ {l : List Value}, l.all flatA = true → sameM l l = true
 | [], _ => rfl
 | v :: r, h => by
  simp only [List.all_cons, Bool.and_eq_true] at h
  simp only [sameM, flatA_same h.1, flatM_same h.2, Bool.and_self]
theorem same_of {v : Value} (h : flatV v = true) : same v v = true := by
 unfold flatV at h
 split at h
 ·exact flatL_same h
 ·exact flatM_same h
 ·have := flat1_same h
  cases v <;> first | exact this | (simp [flat1] at h; done)
def gW : Ent := .row [.slice (some ⟨1, 0, none⟩) 12 12] 0 true
def gV (ws : List Value) : Ent := .row ws 1 true
def LowO (m : Nat) (o : Option Ent) : Prop := ∀ e, o = some e → ∀ π, Keeps m π → RenE π e e
theorem get_tri {g0 g1 : Ent} {eb ev : Option Ent} {l : List (Nat × Ent)} {n i : Nat} {e : Ent} (h : (tri g0 g1 eb ev l n).heap.get i = some e) :
 (i = 0 ∧ e = g0) ∨ (i = 1 ∧ e = g1) ∨ (i = 2 ∧ eb = some e) ∨ (i = 3 ∧ ev = some e) ∨ (i, e) ∈ l := by
 rcases get_putL l _ i e h with h1 | h1
 ·rw [PT.get_set] at h1
  split at h1
  ·rename_i hi; exact .inr (.inr (.inr (.inl ⟨hi, h1⟩)))
  ·rw [PT.get_set] at h1
   split at h1
   ·rename_i hi; exact .inr (.inr (.inl ⟨hi, h1⟩))
   ·rw [PT.get_set] at h1
    split at h1
    ·rename_i hi; cases h1; exact .inr (.inl ⟨hi, rfl⟩)
    ·rw [PT.get_set] at h1
     split at h1
     ·rename_i hi; cases h1; exact .inl ⟨hi, rfl⟩
     ·simp [PT.get] at h1
 ·exact .inr (.inr (.inr (.inr h1)))
theorem Kept.tri {ws : List Value} {eb ev : Option Ent} {l : List (Nat × Ent)} {m : Nat} {S : St} (hw : ws.all plain1 = true) (h0 : S.heap.get 0 = some gW) (h1 : S.heap.get 1 = some (gV ws)) (h2 : ∀ e, eb = some e → S.heap.get 2 = some e) (h3 : ∀ e, ev = some e → S.heap.get 3 = some e)
 (hb : LowO m eb) (hv : LowO m ev) (hl : ∀ p ∈ l, S.heap.get p.1 = some p.2 ∧ p.1 < m ∧ ∀ π, Keeps m π → RenE π p.2 p.2) (hm : 4 ≤ m) (hS : m ≤ S.next) (hg : S.glob = 1) : Kept m (Go.Xe.tri gW (gV ws) eb ev l m) S :=
 ⟨fun i e hi => by
  rcases get_tri hi with ⟨rfl, rfl⟩ | ⟨rfl, rfl⟩ | ⟨rfl, he⟩ | ⟨rfl, he⟩ | h
  ·exact ⟨h0, by omega, fun π hk => lowE_ren (m := 4) (fun j hj => hk j (by omega)) rfl⟩
  ·exact ⟨h1, by omega, fun π hk => .plain hw⟩
  ·exact ⟨h2 e he, by omega, hb e he⟩
  ·exact ⟨h3 e he, by omega, hv e he⟩
  ·exact hl (i, e) h, rfl, hS, hg.symm, by show 1 ≤ m; omega⟩
theorem okOrcN : OrcSound Tryz.prog orcN := fun f F h => by
 unfold orcN at h
 split at h
 ·cases h; rename_i hf; subst hf; exact openNoneF_sound
 ·exact okOrc3 f F h
theorem yxN : YX ycN (xgoO Tryz.prog okN orcN kp 100) := ygo_is orcN kp 100
theorem callN : CallSound Tryz.prog (xgoO Tryz.prog okN orcN kp 100) := xgoO_sound mixed okN_ok okN_good okOrcN kp 100
end Go.Xe
