/-
  CacheOpens: from the begin.
-/
import Derived.Test.YtkhjbbigangbdaaDoorM17
set_option linter.unusedVariables false
set_option linter.unusedSimpArgs false
namespace Go.Xe
open Go Go.Proofs

noncomputable abbrev zC : Code := appL lC zE
noncomputable abbrev zP : Code := .seq cP zC
noncomputable abbrev zN : Code := appL lN zP
theorem code3z : codeOf Tryd.prog 3 = appL lA zN := by kernel_rfl

theorem andLow (n : Int) : (BitVec.ofInt 64 n &&& BitVec.ofInt 64 8191).toNat ≤ 8191 := by
  rw [BitVec.toNat_and]
  exact Nat.le_trans Nat.and_le_right (by decide)

/-- what a disk with this run of bytes is like -/
structure RunOk (z : Nat) (bs : List Value) : Prop where
  len : bs.length ≤ z
  bytes : bs.all isByte = true
  mark : ∀ pos i, pos + bs.length ≤ z → i + 3 < z → noMark (runDisk z pos bs) i = true
  norec : ∀ pos i, pos + bs.length ≤ z → i < z - 64 → isRec (runDisk z pos bs) (z - 64) i = false
theorem runDisk_length {z pos : Nat} {bs : List Value} (h : pos + bs.length ≤ z) : (runDisk z pos bs).length = z := by
  unfold runDisk splice
  simp only [List.length_append, List.length_take, List.length_drop, List.length_replicate]; omega
theorem runDisk_bytes {z pos : Nat} {bs : List Value} (hb : bs.all isByte = true) : (runDisk z pos bs).all isByte = true := by
  unfold runDisk splice
  simp only [List.all_append, List.take_replicate, List.drop_replicate, rep_bytes, hb, Bool.and_self]

section
variable {K : Nat} {ws : List Value} (hK : KOk K ws) {vs bs : List Value} {z lv lb : Nat} {vv : Value} {ev : Option Ent} {at0 : Int}
include hK
theorem endC (hw : ws.all plain1 = true) (hv : valE 3 vv ev vs lv) (hvs : vs.all isByte = true) (hlv : lv < 2 ^ 40) (hz1 : 4096 ≤ z) (hz2 : z < 20000) (hR : RunOk z bs) (hlb : lb = bs.length) :
    Ends zC (sl [(2, .int .i64 at0), (3, vv), (9, .int .i64 (z : Int)), (10, .pointer (some ⟨12, 0, none⟩)), (12, .slice (some ⟨13, 0, none⟩) lb lb)])
      (tri gW (gV ws) none ev [(5, byteRow (zerosL [.int .u8 0] z)), (7, byteRow (zerosL [.int .u8 0] z)), (12, diskAt 5 7 z), (13, byteRow bs)] 14) := by
  obtain ⟨hlow, hvv⟩ := valE_low (m := 14) hv hvs (by omega)
  have hble := hR.len
  obtain ⟨A, hA⟩ : ∃ A, A = (BitVec.ofInt 64 at0 &&& BitVec.ofInt 64 8191).toNat := ⟨_, rfl⟩
  have hA2 : A ≤ 8191 := by rw [hA]; exact andLow at0
  obtain ⟨pos, hpd⟩ : ∃ pos, pos = A % (z - lb + 1) := ⟨_, rfl⟩
  have hpos : pos + bs.length ≤ z := by have := Nat.mod_lt A (show z - lb + 1 > 0 by omega); omega
  have e1 : IntKind.wrap IntKind.i64 (A : Int) = (A : Int) := wrap64 (by omega) (by omega)
  have e2 : IntKind.wrap IntKind.i64 ((z : Int) - (lb : Int)) = ((z - lb : Nat) : Int) := wrapSub (by omega) (by omega)
  have e3 : IntKind.wrap IntKind.i64 (((z - lb : Nat) : Int) + 1) = ((z - lb + 1 : Nat) : Int) := wrapAdd (b := 1) (by omega)
  have e4 : Int.tmod (A : Int) ((z - lb + 1 : Nat) : Int) = (pos : Int) := by rw [hpd]; exact (Int.ofNat_tmod A (z - lb + 1)).symm
  have e5 : IntKind.wrap IntKind.i64 ((z : Int) - (pos : Int)) = ((z - pos : Nat) : Int) := wrapSub (by omega) (by omega)
  have fin : ∀ (cs : List Value), cs = runDisk z pos bs → Ends zE (sl [(3, vv), (9, .int .i64 (z : Int)), (10, .pointer (some ⟨12, 0, none⟩)), (52, .bool false)]) (tri gW (gV ws) none ev [(5, byteRow cs), (7, byteRow cs), (12, diskAt 5 7 z)] 14) := by
    rintro cs rfl
    exact endE hK hw hv hvs hlv (runDisk_bytes hR.bytes) (runDisk_bytes hR.bytes) (runDisk_length hpos) (runDisk_length hpos) hz1 hz2 (hR.mark _ _ hpos (by omega)) (hR.mark _ _ hpos (by omega)) (fun i hi => hR.norec _ i hpos hi)
  have kept : ∀ (cs : List Value) (S : St), cs.all isByte = true → S.heap.get 0 = some gW → S.heap.get 1 = some (gV ws) → (∀ e, ev = some e → S.heap.get 3 = some e) → (S.heap.get 5 = some (byteRow cs) ∧ S.heap.get 7 = some (byteRow cs) ∧ S.heap.get 12 = some (diskAt 5 7 z)) → 14 ≤ S.next → S.glob = 1 →
      Kept 14 (tri gW (gV ws) none ev [(5, byteRow cs), (7, byteRow cs), (12, diskAt 5 7 z)] 14) S := by
    intro us S hu h0 h1 h3 hh hn hg
    refine Kept.tri hw h0 h1 (by simp) h3 (by intro e he; cases he) hlow (fun p hp => ?_) (by omega) hn hg
    obtain ⟨g5, g7, g12⟩ := hh
    simp only [List.mem_cons, List.not_mem_nil, or_false] at hp
    rcases hp with rfl | rfl | rfl
    · exact ⟨g5, Nat.le_of_ble_eq_true rfl, fun π hk => bytes_ren hu π⟩
    · exact ⟨g7, Nat.le_of_ble_eq_true rfl, fun π hk => bytes_ren hu π⟩
    · exact ⟨g12, Nat.le_of_ble_eq_true rfl, fun π hk => lowE_ren hk rfl⟩
  have slots : ∀ i v, slot (sl [(3, vv), (9, .int .i64 (z : Int)), (10, .pointer (some ⟨12, 0, none⟩)), (52, .bool false)]) i = some v → ∀ π, Keeps 14 π → RenV π v v := by
    refine sl_ren fun p hp π hk => ?_
    simp only [List.mem_cons, List.not_mem_nil, or_false] at hp
    rcases hp with rfl | rfl | rfl | rfl
    · exact hvv π hk
    all_goals exact low_ren (m := 14) hk rfl
  have hzb : (zerosL [Value.int .u8 0] z).all isByte = true := by rw [zerosL_rep]; exact rep_bytes _
  have hzl : (zerosL [Value.int .u8 0] z).length = z := by rw [zerosL_rep, List.length_replicate]
  have f7 : decide (0 < (z : Int)) = true := decide_eq_true (by omega)
  have hzz : List.take 0 (zerosL [Value.int IntKind.u8 0] 0) = [] := rfl
  by_cases h0 : lb = 0
  · have hbs : bs = [] := List.length_eq_zero_iff.1 (by omega)
    have h := topW0 at0 z lb bs (zerosL [.int .u8 0] z) (zerosL [.int .u8 0] z) vv gW (gV ws) ev
    rw [← hA] at h
    have hT : List.take z (zerosL [Value.int IntKind.u8 0] z) = zerosL [Value.int IntKind.u8 0] z := List.take_of_length_le (by omega)
    have hS : splice (zerosL [Value.int IntKind.u8 0] z) 0 (zerosL [Value.int IntKind.u8 0] z) = zerosL [Value.int IntKind.u8 0] z := by
      unfold splice
      rw [List.take_zero, List.nil_append, List.drop_eq_nil_of_le (by omega), List.append_nil]
    simp only [e1, e2, e3, e4, e5, Int.toNat_natCast, Nat.sub_zero, Nat.zero_add, Nat.mul_one, List.drop_zero, List.take_zero, List.nil_append, hT, hS] at h
    have hcs : zerosL [Value.int IntKind.u8 0] z = runDisk z pos bs := by
      rw [hbs, zerosL_rep]
      unfold runDisk splice
      simp only [List.append_nil, List.length_nil, Nat.add_zero, List.take_append_drop]
    refine Ends.more (l := lC) (z := zE) (okF := okN) (fg := kp 3) callN okN_ok (List.cons_ne_nil _ _) goodC (Runs.path yxN h ?_) (Moves.kept (m := 14) (kept _ _ hzb (by kernel_rfl) (by kernel_rfl) (by intro e he; subst he; kernel_rfl) ⟨by kernel_rfl, by kernel_rfl, by kernel_rfl⟩ (Nat.le_of_ble_eq_true rfl) rfl) (Nat.le_of_ble_eq_true rfl) slots) (fin _ hcs)
    repeat rw [same_of]
    · simp only [f7, hzb, ones_bytes hzb, hzl, diskAt, hzz, List.nil_append, decide_true, beq_self_eq_true, if_true, List.length_set, Bool.true_and, Bool.and_true, Bool.not_true, Bool.not_false, Bool.and_self, Nat.zero_add, List.length_cons, List.length_nil, List.all_cons, List.all_nil, oneInt,
        Bool.and_eq_true, decide_eq_true_eq, Bool.not_eq_true', decide_eq_false_iff_not, true_and, and_true]
      omega
    all_goals rfl
  · have h := topW at0 z lb bs (zerosL [.int .u8 0] z) (zerosL [.int .u8 0] z) vv gW (gV ws) ev
    rw [← hA] at h
    have hT0 : List.take lb bs = bs := by rw [hlb, List.take_length]
    have hsp : splice (zerosL [Value.int IntKind.u8 0] z) pos bs = runDisk z pos bs := by unfold runDisk; rw [zerosL_rep]
    have hrl : (runDisk z pos bs).length = z := runDisk_length hpos
    have hrb : (runDisk z pos bs).all isByte = true := runDisk_bytes hR.bytes
    have hT : List.take z (runDisk z pos bs) = runDisk z pos bs := List.take_of_length_le (by omega)
    have hS : splice (zerosL [Value.int IntKind.u8 0] z) 0 (runDisk z pos bs) = runDisk z pos bs := by
      unfold splice
      rw [List.take_zero, List.nil_append, List.drop_eq_nil_of_le (by omega), List.append_nil]
    simp only [e1, e2, e3, e4, e5, Int.toNat_natCast, Nat.sub_zero, Nat.zero_add, Nat.mul_one, List.drop_zero, List.take_zero, List.nil_append, hT0, hsp, hT, hS] at h
    refine Ends.more (l := lC) (z := zE) (okF := okN) (fg := kp 3) callN okN_ok (List.cons_ne_nil _ _) goodC (Runs.path yxN h ?_) (Moves.kept (m := 14) (kept _ _ hrb (by kernel_rfl) (by kernel_rfl) (by intro e he; subst he; kernel_rfl) ⟨by kernel_rfl, by kernel_rfl, by kernel_rfl⟩ (Nat.le_of_ble_eq_true rfl) rfl) (Nat.le_of_ble_eq_true rfl) slots) (fin _ rfl)
    repeat rw [same_of]
    · simp only [f7, hzb, hrb, hrl, hR.bytes, ones_bytes hR.bytes, ones_bytes hrb, ones_bytes hzb, hzl, diskAt, hzz, List.nil_append, decide_true, beq_self_eq_true, if_true, List.length_set, Bool.true_and, Bool.and_true, Bool.not_true, Bool.not_false, Bool.and_self, Nat.zero_add, List.length_cons, List.length_nil, List.all_cons, List.all_nil, oneInt,
        Bool.and_eq_true, decide_eq_true_eq, Bool.not_eq_true', decide_eq_false_iff_not, true_and, and_true]
      omega
    all_goals rfl
end
end Go.Xe
/-
  CacheOpens: the whole.
-/
set_option linter.unusedVariables false
set_option linter.unusedSimpArgs false
namespace Go.Xe
open Go Go.Proofs

theorem runOk_plain {z n : Nat} {cs : List Value} (hb : cs.all isByte = true) (hn : n ≤ z) (hc : n ≤ cs.length) (hz : z < 20000) : RunOk z (plainRow cs 0 n) := by
  have ho : ∀ i, i < n → 0 + i % 3 < cs.length := fun i hi => by have := Nat.mod_le i 3; omega
  have h256 : ∀ j, (intOf (cs.getD (0 + j) undefX)).toNat < 256 := fun j => by
    by_cases hj : 0 + j < cs.length
    · obtain ⟨m, hm, e⟩ := isByte_nat (byte_at hb hj)
      rw [e]; simpa [intOf] using hm
    · rw [List.getD_eq_getElem?_getD, List.getElem?_eq_none (by omega)]; decide
  refine ⟨by rw [plainRow_length]; exact hn, plainRow_bytes hb ho, fun pos i hp hi => ?_, fun pos i hp hi => ?_⟩
  · rw [plainRow_length] at hp
    rw [runDisk_is hb hp ho]
    exact noMark_run hi
  · rw [plainRow_length] at hp
    rw [runDisk_is hb hp ho]
    exact noRec_run (bb := fun t => (intOf (cs.getD (0 + t) undefX)).toNat) h256 hz hi

section
variable {K : Nat} {ws : List Value} (hK : KOk K ws) {vs bb : List Value} {z lv lb : Nat} {bv vv : Value} {eb ev : Option Ent} {n at0 : Int}
include hK
theorem endP (hw : ws.all plain1 = true) (hbv : valE 2 bv eb bb lb) (hbb : bb.all isByte = true) (hlb : lb < 1099511627776) (hv : valE 3 vv ev vs lv) (hvs : vs.all isByte = true) (hlv : lv < 2 ^ 40) (hz1 : 4096 ≤ z) (hz2 : z < 20000) :
    Ends zP (sl [(1, bv), (2, .int .i64 at0), (3, vv), (9, .int .i64 (z : Int)), (10, .pointer (some ⟨12, 0, none⟩)), (35, .bool false)])
      (tri gW (gV ws) eb ev [(5, byteRow (zerosL [.int .u8 0] z)), (7, byteRow (zerosL [.int .u8 0] z)), (12, diskAt 5 7 z)] 13) := by
  obtain ⟨hlow, hvv⟩ := valE_low (m := 14) hv hvs (by omega)
  have hzb : (zerosL [Value.int .u8 0] z).all isByte = true := by rw [zerosL_rep]; exact rep_bytes _
  have kept : ∀ (bs : List Value) (S : St), bs.all isByte = true → S.heap.get 0 = some gW → S.heap.get 1 = some (gV ws) → (∀ e, ev = some e → S.heap.get 3 = some e) → (S.heap.get 5 = some (byteRow (zerosL [.int .u8 0] z)) ∧ S.heap.get 7 = some (byteRow (zerosL [.int .u8 0] z)) ∧ S.heap.get 12 = some (diskAt 5 7 z) ∧ S.heap.get 13 = some (byteRow bs)) → 14 ≤ S.next → S.glob = 1 →
      Kept 14 (tri gW (gV ws) none ev [(5, byteRow (zerosL [.int .u8 0] z)), (7, byteRow (zerosL [.int .u8 0] z)), (12, diskAt 5 7 z), (13, byteRow bs)] 14) S := by
    intro us S hu h0 h1 h3 hh hn hg
    refine Kept.tri hw h0 h1 (by simp) h3 (by intro e he; cases he) hlow (fun p hp => ?_) (by omega) hn hg
    obtain ⟨g5, g7, g12, g13⟩ := hh
    simp only [List.mem_cons, List.not_mem_nil, or_false] at hp
    rcases hp with rfl | rfl | rfl | rfl
    · exact ⟨g5, Nat.le_of_ble_eq_true rfl, fun π hk => bytes_ren hzb π⟩
    · exact ⟨g7, Nat.le_of_ble_eq_true rfl, fun π hk => bytes_ren hzb π⟩
    · exact ⟨g12, Nat.le_of_ble_eq_true rfl, fun π hk => lowE_ren hk rfl⟩
    · exact ⟨g13, Nat.le_of_ble_eq_true rfl, fun π hk => bytes_ren hu π⟩
  have slots : ∀ l : Nat, ∀ i v, slot (sl [(2, .int .i64 at0), (3, vv), (9, .int .i64 (z : Int)), (10, .pointer (some ⟨12, 0, none⟩)), (12, .slice (some ⟨13, 0, none⟩) l l)]) i = some v → ∀ π, Keeps 14 π → RenV π v v := by
    intro l
    refine sl_ren fun p hp π hk => ?_
    simp only [List.mem_cons, List.not_mem_nil, or_false] at hp
    rcases hp with rfl | rfl | rfl | rfl | rfl
    · exact .int _ _
    · exact hvv π hk
    all_goals exact low_ren (m := 14) hk rfl
  rcases hbv with ⟨rfl, rfl, rfl, rfl⟩ | ⟨c, ro, rfl, rfl, hle, hlc⟩
  · have h := topP0 at0 z vv gW (gV ws) ev
    have hm : (if (z : Int) < 0 then (z : Int) else 0) = ((0 : Nat) : Int) := by rw [if_neg (by omega)]; rfl
    simp only [hm, Int.toNat_natCast] at h
    refine Ends.one (c := cP) (z := zC) (okF := okN) (fg := kp 3) callN okN_ok good_cP (Runs.path yxN h ?_) (Moves.kept (m := 14) (kept [] _ rfl (by kernel_rfl) (by kernel_rfl) (by intro e he; subst he; kernel_rfl) ⟨by kernel_rfl, by kernel_rfl, by kernel_rfl, by kernel_rfl⟩ (Nat.le_of_ble_eq_true rfl) rfl) (Nat.le_of_ble_eq_true rfl) (slots 0)) (endC hK hw hv hvs hlv hz1 hz2 (runOk_plain (n := 0) (cs := []) rfl (by omega) (by simp) hz2) rfl)
    kernel_rfl
  · have h := topP at0 z lb c bb vv gW (gV ws) ev ro
    have hpb : (plainRow bb 0 (min lb z)).all isByte = true := plainRow_bytes hbb (fun i hi => by have := Nat.mod_le i 3; omega)
    refine Ends.one (c := cP) (z := zC) (okF := okN) (fg := kp 3) callB okN_ok good_cP (Runs.path yxB h ?_) (Moves.kept (m := 14) (kept (plainRow bb 0 (min lb z)) _ hpb (by kernel_rfl) (by kernel_rfl) (by intro e he; subst he; kernel_rfl) ⟨by kernel_rfl, by kernel_rfl, by kernel_rfl, by kernel_rfl⟩ (Nat.le_of_ble_eq_true rfl) rfl) (Nat.le_of_ble_eq_true rfl) (slots (min lb z))) (endC hK hw hv hvs hlv hz1 hz2 (runOk_plain hbb (by omega) (by omega) hz2) (plainRow_length _ _ _).symm)
    simp only [hbb, Bool.true_and, Bool.and_true, Bool.and_eq_true, decide_eq_true_eq, true_and, and_true]
    omega

theorem endN (hw : ws.all plain1 = true) (hbv : valE 2 bv eb bb lb) (hbb : bb.all isByte = true) (hlb : lb < 1099511627776) (hv : valE 3 vv ev vs lv) (hvs : vs.all isByte = true) (hlv : lv < 2 ^ 40) (hz1 : 4096 ≤ z) (hz2 : z < 20000) :
    Ends zN (sl [(1, bv), (2, .int .i64 at0), (3, vv), (9, .int .i64 (z : Int))]) (tri gW (gV ws) eb ev [] 4) := by
  have h := topN at0 z bv vv gW (gV ws) eb ev
  obtain ⟨hlow, hvv⟩ := valE_low (m := 13) hv hvs (by omega)
  obtain ⟨hlowb, hbv'⟩ := valE_low (m := 13) hbv hbb (by omega)
  have hzb : (zerosL [Value.int .u8 0] z).all isByte = true := by rw [zerosL_rep]; exact rep_bytes _
  have e1 : IntKind.wrap IntKind.i64 (z : Int) = (z : Int) := wrap64 (by omega) (by omega)
  refine Ends.more (l := lN) (z := zP) (okF := okN) (fg := kp 3) callB okN_ok (List.cons_ne_nil _ _) goodN (Runs.path yxB h ?_) (Moves.kept (m := 13) (Kept.tri (l := [(5, byteRow (zerosL [.int .u8 0] z)), (7, byteRow (zerosL [.int .u8 0] z)), (12, diskAt 5 7 z)]) (eb := eb) (ev := ev) hw ?_ ?_ ?_ ?_ hlowb hlow ?_ (by omega) ?_ rfl) ?_ ?_) (endP hK hw hbv hbb hlb hv hvs hlv hz1 hz2)
  · repeat rw [same_of]
    · simp only [e1, Bool.true_and, Bool.and_true, Bool.not_true, Bool.not_false, Bool.and_self, Bool.and_eq_true, decide_eq_true_eq, Bool.not_eq_true', decide_eq_false_iff_not, true_and, and_true]
      omega
    all_goals rfl
  · kernel_rfl
  · kernel_rfl
  · intro e he; subst he; kernel_rfl
  · intro e he; subst he; kernel_rfl
  · intro p hp
    simp only [List.mem_cons, List.not_mem_nil, or_false] at hp
    rcases hp with rfl | rfl | rfl
    · exact ⟨by kernel_rfl, Nat.le_of_ble_eq_true rfl, fun π hk => bytes_ren hzb π⟩
    · exact ⟨by kernel_rfl, Nat.le_of_ble_eq_true rfl, fun π hk => bytes_ren hzb π⟩
    · exact ⟨by kernel_rfl, Nat.le_of_ble_eq_true rfl, fun π hk => lowE_ren hk rfl⟩
  · exact Nat.le_of_ble_eq_true rfl
  · exact Nat.le_of_ble_eq_true rfl
  · refine sl_ren fun p hp π hk => ?_
    simp only [List.mem_cons, List.not_mem_nil, or_false] at hp
    rcases hp with rfl | rfl | rfl | rfl | rfl | rfl
    · exact hbv' π hk
    · exact .int _ _
    · exact hvv π hk
    all_goals exact low_ren (m := 13) hk rfl

/-- CacheOpens gives true. -/
theorem opens (hw : ws.all plain1 = true) (hbv : valE 2 bv eb bb lb) (hbb : bb.all isByte = true) (hlb : lb < 1099511627776) (hv : valE 3 vv ev vs lv) (hvs : vs.all isByte = true) (hlv : lv < 2 ^ 40) :
    Ends (codeOf Tryd.prog 3) (startX Tryd.f3 [.int .i64 n, bv, .int .i64 at0, vv]) (tri gW (gV ws) eb ev [] 4) := by
  have h := topA n at0 bv vv gW (gV ws) eb ev
  obtain ⟨B, hB⟩ : ∃ B, B = (BitVec.ofInt 64 n &&& BitVec.ofInt 64 8191).toNat := ⟨_, rfl⟩
  have hB2 : B ≤ 8191 := by rw [hB]; exact andLow n
  have e1 : IntKind.wrap IntKind.i64 (B : Int) = (B : Int) := wrap64 (by omega) (by omega)
  have e2 : IntKind.wrap IntKind.i64 (4096 + (B : Int)) = ((4096 + B : Nat) : Int) := wrapAdd (a := 4096) (by omega)
  rw [← hB, e1, e2] at h
  obtain ⟨hlow, hvv⟩ := valE_low (m := 4) hv hvs (by omega)
  obtain ⟨hlowb, hbv'⟩ := valE_low (m := 4) hbv hbb (by omega)
  rw [code3z]
  refine Ends.more (l := lA) (z := zN) (okF := okN) (fg := kp 3) callB okN_ok (List.cons_ne_nil _ _) goodA (Runs.path yxB h (by kernel_rfl)) (Moves.kept (m := 4) (Kept.tri (l := []) (eb := eb) (ev := ev) hw ?_ ?_ ?_ ?_ hlowb hlow (by simp) (by omega) ?_ rfl) ?_ ?_) (endN hK (z := 4096 + B) hw hbv hbb hlb hv hvs hlv (by omega) (by omega))
  · kernel_rfl
  · kernel_rfl
  · intro e he; subst he; kernel_rfl
  · intro e he; subst he; kernel_rfl
  · exact Nat.le_of_ble_eq_true rfl
  · exact Nat.le_of_ble_eq_true rfl
  · refine sl_ren fun p hp π hk => ?_
    simp only [List.mem_cons, List.not_mem_nil, or_false] at hp
    rcases hp with rfl | rfl | rfl | rfl
    · exact hbv' π hk
    · exact .int _ _
    · exact hvv π hk
    · exact .int _ _
end
end Go.Xe
/-
  alive (13): states.
-/
set_option linter.unusedVariables false
namespace Go.Xe
open Go Go.Proofs
def orcO97 : Orc := fun f => if f = 8 then some (openOneF 97) else orc3 f
noncomputable def ycO97 : YCall := ygo Tryd.prog okN orcO97 kp 100
/-- keys, where the words lie -/
def keysF (args : List Value) (S : St) : Y (Value × St) :=
  match args, S.heap.get 0, S.heap.get 1 with
  | [], some (.row [.slice (some ⟨1, 0, none⟩) 12 12] 0 true), some (.row ws 1 true) => .req (decide (1 ≤ S.glob)) (.req (sameL ws wordsL) (.pure (.bool true, S)))
  | _, _, _ => none
/-- a map's entry whose key is a string, as maps have them -/
def okKey (e : MapEntry) (c : Nat) : Bool :=
  match e.key with
  | .string s => decide (s.size ≤ 1000) && decide (e.born < c)
  | _ => false
/-- AppendSeq (78) of nil and the keys of a map with one entry -/
def appF (args : List Value) (S : St) : Y (Value × St) :=
  match args with
  | [.slice none 0 0, .func (.func 69) ⟨[]⟩ ⟨[.pointer (some ⟨b, 0, none⟩)]⟩] => match S.heap.get b with
    | some (.row [.map (some m)] _ _) => match S.heap.get m with
      | some (.map [e] c false) => .req (okKey e c) (.pure (.slice (some ⟨S.next, 0, none⟩) 1 1, { S with heap := S.heap.set S.next (some (.row [e.key] 1 false)), next := S.next + 1 }))
      | _ => none
    | _ => none
  | _ => none
def orcL : Orc := fun f => if f = 31 then some keysF else if f = 78 then some appF else orc3 f
noncomputable def ycL : YCall := ygo Tryd.prog okN orcL kp 100
noncomputable def slA (l : List (Nat × Value)) : XAct := l.foldl (fun a p => a.set p.1 (some p.2)) (List.replicate (Tryd.f13.ntmps) none)
end Go.Xe
