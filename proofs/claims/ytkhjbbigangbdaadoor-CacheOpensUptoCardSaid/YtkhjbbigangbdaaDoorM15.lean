/-
  Open: what its body gives on a disk with no record, and on one with a record at its begin.
-/
import Derived.Test.YtkhjbbigangbdaaDoorM14
import Derived.Test.YtkhjbbigangbdaaDoorM13
set_option linter.unusedVariables false
set_option linter.unusedSimpArgs false
namespace Go.Xe
open Go Go.Proofs

theorem okOrc3 : OrcSound Tryd.prog orc3 := fun f F h => by
  unfold orc3 at h
  split at h
  · cases h; rename_i hf; subst hf; exact getF_sound
  · split at h
    · cases h; rename_i hf; subst hf; exact sumF_sound
    · split at h
      · cases h; rename_i hf; subst hf; exact putF_sound
      · split at h
        · cases h; rename_i hf; subst hf; exact readFn_sound
        · split at h
          · cases h; rename_i hf; subst hf; exact markedFn_sound
          · split at h
            · cases h; rename_i hf; subst hf; exact imageFn_sound
            · cases h
noncomputable abbrev xc3 : XCall := xgoO Tryd.prog okN orc3 kp 100
theorem yx3 : YX yc3 xc3 := ygo_is orc3 kp 100
theorem call3 : CallSound Tryd.prog xc3 := xgoO_sound mixed okN_ok okN_good okOrc3 kp 100
abbrev SR8 := SR Tryd.prog
theorem body8 : Tryd.f8.body = some (codeOf Tryd.prog 8) := by kernel_rfl
theorem code8 : codeOf Tryd.prog 8 = appL pre8 (.seq (.seq head8 (.block 0 (.loop loop8))) post8) := by kernel_rfl
theorem good8 : goodCode (codeOf Tryd.prog 8) = true := okN_good 8 _ _ rfl Tryd.func8 body8

theorem bytes_ren {cs : List Value} {esz : Nat} {ro : Bool} (h : cs.all isByte = true) (π : Nat → Nat) : RenE π (.row cs esz ro) (.row cs esz ro) := .plain (ints_plain (bytes_ints h))

section
variable {n l cp v : Nat} {c : UInt8} {cs ds : List Value} {sz : Int}
theorem oS_kept {S : St} (hcs : cs.all isByte = true) (hds : ds.all isByte = true) (h : S.heap.get 0 = some (.row cs 1 false) ∧ S.heap.get 2 = some (diskRow n) ∧ S.heap.get 3 = some (.map [] 0 false) ∧ S.heap.get 4 = some (cacheRow sz (.slice none 0 0) 1 0) ∧ S.heap.get 6 = some (.row ds 1 false) ∧ S.heap.get 180 = some (.row [.int .u64 0] 0 false))
    (hm : 181 ≤ S.next) (hg : S.glob = 0) : Kept 181 (oS n cs ds sz) S := by
  refine Kept.ofL (fun p hp => ?_) hm hg
  obtain ⟨h0, h2, h3, h4, h6, h7⟩ := h
  simp only [List.mem_cons, List.not_mem_nil, or_false] at hp
  rcases hp with rfl | rfl | rfl | rfl | rfl | rfl
  · exact ⟨h0, Nat.le_of_ble_eq_true rfl, fun π hk => bytes_ren hcs π⟩
  · exact ⟨h2, Nat.le_of_ble_eq_true rfl, fun π hk => lowE_ren hk rfl⟩
  · exact ⟨h3, Nat.le_of_ble_eq_true rfl, fun π hk => lowE_ren hk rfl⟩
  · exact ⟨h4, Nat.le_of_ble_eq_true rfl, fun π hk => lowE_ren hk rfl⟩
  · exact ⟨h6, Nat.le_of_ble_eq_true rfl, fun π hk => bytes_ren hds π⟩
  · exact ⟨h7, Nat.le_of_ble_eq_true rfl, fun π hk => lowE_ren hk rfl⟩
theorem oS1_kept {S : St} (hcs : cs.all isByte = true) (hds : ds.all isByte = true) (h : S.heap.get 0 = some (.row cs 1 false) ∧ S.heap.get 2 = some (diskRow n) ∧ S.heap.get 3 = some (.map [] 0 false) ∧ S.heap.get 4 = some (cacheRow sz (.slice (some ⟨244, 0, none⟩) 1 1) 2 ((34 + v : Nat) : Int)) ∧ S.heap.get 6 = some (.row ds 1 false) ∧ S.heap.get 180 = some (.row [.int .u64 1] 0 false) ∧ S.heap.get 244 = some (.row (recCells c v) 6 false))
    (hm : 245 ≤ S.next) (hg : S.glob = 0) : Kept 245 (oS1 n v c cs ds sz) S := by
  refine Kept.ofL (fun p hp => ?_) hm hg
  obtain ⟨h0, h2, h3, h4, h6, h7, h8⟩ := h
  simp only [List.mem_cons, List.not_mem_nil, or_false] at hp
  rcases hp with rfl | rfl | rfl | rfl | rfl | rfl | rfl
  · exact ⟨h0, Nat.le_of_ble_eq_true rfl, fun π hk => bytes_ren hcs π⟩
  · exact ⟨h2, Nat.le_of_ble_eq_true rfl, fun π hk => lowE_ren hk rfl⟩
  · exact ⟨h3, Nat.le_of_ble_eq_true rfl, fun π hk => lowE_ren hk rfl⟩
  · exact ⟨h4, Nat.le_of_ble_eq_true rfl, fun π hk => lowE_ren hk rfl⟩
  · exact ⟨h6, Nat.le_of_ble_eq_true rfl, fun π hk => bytes_ren hds π⟩
  · exact ⟨h7, Nat.le_of_ble_eq_true rfl, fun π hk => lowE_ren hk rfl⟩
  · exact ⟨h8, Nat.le_of_ble_eq_true rfl, fun π hk => lowE_ren hk rfl⟩
end
theorem good_parts : goodCode (seqs pre8) = true ∧ goodCode head8 = true ∧ goodCode loop8 = true ∧ goodCode post8 = true := by
  have h := good8
  rw [code8] at h
  simp only [pre8, appL, goodCode, Bool.and_eq_true] at h
  simp only [pre8, seqs, goodCode, Bool.and_eq_true]
  obtain ⟨a0, a1, a2, a3, a4, a5, a6, a7, a8, a9, ⟨b1, b2⟩, b3⟩ := h
  exact ⟨⟨a0, a1, a2, a3, a4, a5, a6, a7, a8, a9⟩, b1, b2, b3⟩

section
variable {n l cp v : Nat} {c : UInt8} {cs ds : List Value} {sz : Int}
theorem head_low (m l cp : Nat) (k : Int) (b : Option Bool) (hm : 181 ≤ m) : ∀ i v, slot (oHead l cp k (b.map Value.bool)) i = some v → ∀ π, Keeps m π → RenV π v v := by
  intro i v hv π hk
  have hk' : Keeps 181 π := fun j hj => hk j (by omega)
  have hl : lowA 181 (oHead l cp k (b.map Value.bool)) = true := by cases b <;> kernel_rfl
  exact lowA_ren hl i v hv π hk'

theorem scan_none (hcs : cs.all isByte = true) (hds : ds.all isByte = true) (hl : l < 2 ^ 40) (hlc : l ≤ cp) (hlen : l ≤ ds.length) :
    ∀ (r k : Nat), k + r = l → (∀ i, k ≤ i → i < l → isRec ds l i = false) →
      SL Tryd.prog (r + 1) loop8 (oHead l cp (k : Int) none) (oS n cs ds sz) (.exit 0) (oHead l cp (l : Int) (some (.bool (decide ((l : Int) < (l : Int)))))) (oS n cs ds sz)
  | 0, k, hk, _ => by
    obtain rfl : k = l := by omega
    refine SL.exit (SR.of mixed okN_ok call3 good_parts.2.2.1 (Runs.path yx3 (openLast n k cp k cs ds sz) ?_))
    rw [decide_eq_false (Int.lt_irrefl _)]; rfl
  | r + 1, k, hk, hno => by
    have hr := hno k (Nat.le_refl _) (by omega)
    have e2 : IntKind.wrap .i64 ((k : Int) + 1) = ((k + 1 : Nat) : Int) := wrapAdd (b := 1) (by omega)
    have h := openRound n l cp k cs ds sz
    rw [e2] at h
    refine SL.step ?_ (scan_none hcs hds hl hlc hlen r (k + 1) (by omega) (fun i hi hil => hno i (by omega) hil))
    refine SR.forget (m := 181) (SR.of mixed okN_ok call3 good_parts.2.2.1 (Runs.path yx3 h ?_)) (oS_kept hcs hds ⟨rfl, rfl, rfl, rfl, rfl, rfl⟩ (Nat.le_of_ble_eq_true rfl) rfl) (Nat.le_of_ble_eq_true rfl) (head_low 181 l cp ((k + 1 : Nat) : Int) none (Nat.le_refl _))
    rw [hr]
    simp only [hds, true_and, and_true, Bool.not_false, Bool.and_true, Bool.and_eq_true, decide_eq_true_eq]
    exact ⟨by omega, ⟨by omega, by omega, by omega, by omega, by omega⟩, Nat.le_of_ble_eq_true rfl, rfl⟩

theorem scan_one (hcs : cs.all isByte = true) (hds : ds.all isByte = true) (hl : l < 2 ^ 40) (hlc : l ≤ cp) (hlen : l ≤ ds.length) :
    ∀ (r k : Nat), k + r = l → (∀ i, k ≤ i → i < l → isRec ds l i = false) →
      SL Tryd.prog (r + 1) loop8 (oHead l cp (k : Int) none) (oS1 n v c cs ds sz) (.exit 0) (oHead l cp (l : Int) (some (.bool (decide ((l : Int) < (l : Int)))))) (oS1 n v c cs ds sz)
  | 0, k, hk, _ => by
    obtain rfl : k = l := by omega
    refine SL.exit (SR.of mixed okN_ok call3 good_parts.2.2.1 (Runs.path yx3 (openLast1 n k cp k v c cs ds sz) ?_))
    rw [decide_eq_false (Int.lt_irrefl _)]; rfl
  | r + 1, k, hk, hno => by
    have hr := hno k (Nat.le_refl _) (by omega)
    have e2 : IntKind.wrap .i64 ((k : Int) + 1) = ((k + 1 : Nat) : Int) := wrapAdd (b := 1) (by omega)
    have h := openRound1 n l cp k v c cs ds sz
    rw [e2] at h
    refine SL.step ?_ (scan_one hcs hds hl hlc hlen r (k + 1) (by omega) (fun i hi hil => hno i (by omega) hil))
    refine SR.forget (m := 245) (SR.of mixed okN_ok call3 good_parts.2.2.1 (Runs.path yx3 h ?_)) (oS1_kept hcs hds ⟨rfl, rfl, rfl, rfl, rfl, rfl, rfl⟩ (Nat.le_of_ble_eq_true rfl) rfl) (Nat.le_of_ble_eq_true rfl) (head_low 245 l cp ((k + 1 : Nat) : Int) none (by omega))
    rw [hr]
    simp only [hds, true_and, and_true, Bool.not_false, Bool.and_true, Bool.and_eq_true, decide_eq_true_eq]
    exact ⟨by omega, ⟨by omega, by omega, by omega, by omega, by omega⟩, Nat.le_of_ble_eq_true rfl, rfl⟩

/-- the record at the begin, as it is read -/
structure IsOne (ds : List Value) (l v : Nat) (c : UInt8) : Prop where
  is : isRec ds l 0 = true
  num : getFrom 0 0 (List.take 8 (List.drop (0 + 3) ds)) = 1
  old : getFrom 0 0 (List.take 8 (List.drop (0 + 11) ds)) = 1
  key : rdK ds 0 = 1
  val : rdV ds 0 = v
  name : bytesOf (List.take 1 (List.drop (0 + 25) ds)) = [c]
  put : byteN ds (0 + 2) = 0

theorem found (hcs : cs.all isByte = true) (hds : ds.all isByte = true) (hl : l < 2 ^ 40) (hlc : l ≤ cp) (hlen : l ≤ ds.length) (h1 : IsOne ds l v c) (hv : 34 + v ≤ l) :
    SR Tryd.prog loop8 (oHead l cp 0 none) (oS n cs ds sz) .normal (oHead l cp ((34 + v : Nat) : Int) none) (oS1 n v c cs ds sz) := by
  have h := openFound n l cp 0 cs ds sz
  rw [h1.is, h1.key, h1.val, h1.num, h1.old, h1.name, h1.put] at h
  simp only [if_true] at h
  have e : IntKind.wrap IntKind.i64 (((0 : Nat) : Int) + ((33 + 1 + v : Nat) : Int)) = ((34 + v : Nat) : Int) := by
    rw [wrapAdd (a := 0) (by omega)]; omega
  rw [e] at h
  have e34 : ((33 + 1 + v : Nat) : Int) = ((34 + v : Nat) : Int) := rfl
  refine SR.forget (m := 245) (SR.of mixed okN_ok call3 good_parts.2.2.1 (Runs.path yx3 h ?_)) (oS1_kept hcs hds ⟨rfl, rfl, rfl, rfl, rfl, rfl, rfl⟩ (Nat.le_of_ble_eq_true rfl) rfl) (Nat.le_of_ble_eq_true rfl) (head_low 245 l cp _ none (by omega))
  have f1 : decide (((0 : Nat) : Int) < (l : Int)) = true := decide_eq_true (by omega)
  have f2 : decide (l < 1099511627776) = true := decide_eq_true (by omega)
  have f3 : decide (l ≤ cp) = true := decide_eq_true hlc
  have f4 : decide (l ≤ ds.length) = true := decide_eq_true hlen
  simp only [f1, f2, f3, f4, hds, same, sameL, same1, sameM, sameA, beqBytes_self, decide_true, beq_self_eq_true, splice, List.take_succ_cons, List.take_zero, List.drop_succ_cons, List.drop_zero, List.drop_nil, List.nil_append, List.cons_append, List.append_nil, List.length_cons, List.length_nil, Nat.zero_add, Nat.reduceAdd, List.all_cons, List.all_nil, oneInt, Bool.and_self, Bool.and_true, Bool.true_and, Bool.not_true, Bool.not_false]
  try rfl

theorem open_none (hn : n < 2 ^ 40) (hn2 : 64 < n) (hlen : cs.length = n) (hcs : cs.all isByte = true) (hm1 : noMark cs (n - 64) = true) (hm2 : noMark cs (n - 32) = true) (hno : ∀ i, i < n - 64 → isRec cs (n - 64) i = false) :
    ∃ S', SR Tryd.prog (codeOf Tryd.prog 8) (startX Tryd.f8 [.pointer (some ⟨2, 0, none⟩)]) (oDisk n cs) .ret oEnd S' ∧
      Kept 5 (ofL [(0, .row cs 1 false), (2, diskRow n), (3, .map [] 0 false), (4, cacheRow ((n - 64 : Nat) : Int) (.slice none 0 0) 1 0)] 5) S' := by
  have h := openPre n cs
  have e1 : IntKind.wrap IntKind.i64 ((n : Int) - 64) = ((n - 64 : Nat) : Int) := wrapSub (b := 64) (by omega) (by omega)
  have e2 : IntKind.wrap IntKind.i64 (0 + (n : Int)) = (n : Int) := by rw [Int.zero_add]; exact wrap64 (by omega) (by omega)
  have e3 : IntKind.wrap IntKind.i64 ((n : Int) - 0) = (n : Int) := by rw [Int.sub_zero]; exact wrap64 (by omega) (by omega)
  have e4 : IntKind.wrap IntKind.i64 (((n - 64 : Nat) : Int) + 32) = ((n - 32 : Nat) : Int) := by rw [wrap64 (by omega) (by omega)]; omega
  have e5 : List.take 0 (List.drop 0 (zerosL [Value.int IntKind.u8 0] 0)) ++ List.take ((n - 0) * 1) (List.drop 0 cs) = cs := by
    rw [Nat.sub_zero, takeAll (by omega)]; rfl
  rw [e1, e2, e3, e4, Int.toNat_natCast, Int.toNat_natCast, Int.toNat_natCast, e5] at h
  have r1 := Runs.path yx3 h (by
    have f1 : decide (0 < (n : Int)) = true := decide_eq_true (by omega)
    have f2 : decide ((n : Int) < 0) = false := decide_eq_false (by omega)
    have f3 : decide ((n : Int) < (n : Int)) = false := decide_eq_false (by omega)
    simp only [f1, f2, f3, hcs, hm1, hm2, ones_bytes hcs, hlen, same, sameL, same1, sameM, sameA, beqBytes_self, decide_true, beq_self_eq_true, true_and, and_true, Bool.and_self, Bool.and_true, Bool.true_and, Bool.not_true, Bool.not_false, Bool.and_eq_true, decide_eq_true_eq, Bool.not_eq_true', decide_eq_false_iff_not, List.length_cons, List.length_nil, Nat.sub_zero, Nat.zero_add]
    omega)
  rw [Nat.sub_zero, Nat.zero_add, Nat.sub_zero, Nat.sub_zero] at r1
  have r2 := SR.of mixed okN_ok call3 good_parts.2.1 (Runs.path yx3 (openHead n (n - 64) n cs cs ((n - 64 : Nat) : Int)) rfl)
  have r3 := SR.loop (scan_none (n := n) (l := n - 64) (cp := n) (sz := ((n - 64 : Nat) : Int)) hcs hcs (by omega) (by omega) (by omega) (n - 64) 0 (by omega) (fun i _ hi => hno i hi))
  have r4 := SR.of mixed okN_ok call3 good_parts.2.2.2 (Runs.path yx3 (openPost n (n - 64) n (n - 64) cs cs ((n - 64 : Nat) : Int) (some (.bool (decide (((n - 64 : Nat) : Int) < ((n - 64 : Nat) : Int)))))) rfl)
  refine ⟨_, by rw [code8]; exact SR.parts mixed okN_ok call3 pre8 _ _ (by simp [pre8]) good_parts.1 r1 (SR.preKept (oS_kept hcs hcs ⟨by kernel_rfl, by kernel_rfl, by kernel_rfl, by kernel_rfl, by kernel_rfl, by kernel_rfl⟩ (Nat.le_of_ble_eq_true rfl) rfl) (Nat.le_of_ble_eq_true rfl) (SR.seq (SR.seq r2 (SR.block_exit r3)) r4)), ?_⟩
  refine Kept.ofL (fun p hp => ?_) (Nat.le_of_ble_eq_true rfl) rfl
  simp only [List.mem_cons, List.not_mem_nil, or_false] at hp
  rcases hp with rfl | rfl | rfl | rfl
  · exact ⟨by kernel_rfl, Nat.le_of_ble_eq_true rfl, fun π hk => bytes_ren hcs π⟩
  · exact ⟨by kernel_rfl, Nat.le_of_ble_eq_true rfl, fun π hk => lowE_ren hk rfl⟩
  · exact ⟨by kernel_rfl, Nat.le_of_ble_eq_true rfl, fun π hk => lowE_ren hk rfl⟩
  · exact ⟨by kernel_rfl, Nat.le_of_ble_eq_true rfl, fun π hk => lowE_ren hk rfl⟩
theorem open_one (hn : n < 2 ^ 40) (hn2 : 64 < n) (hlen : cs.length = n) (hcs : cs.all isByte = true) (hm1 : noMark cs (n - 64) = true) (hm2 : noMark cs (n - 32) = true) (h1 : IsOne cs (n - 64) v c) (hv : 34 + v ≤ n - 64) (hno : ∀ i, 34 + v ≤ i → i < n - 64 → isRec cs (n - 64) i = false) :
    ∃ S', SR Tryd.prog (codeOf Tryd.prog 8) (startX Tryd.f8 [.pointer (some ⟨2, 0, none⟩)]) (oDisk n cs) .ret oEnd S' ∧
      Kept 245 (ofL [(0, .row cs 1 false), (2, diskRow n), (3, .map [⟨.string ⟨#[c]⟩, .agg (recCells c v).toArray, 0⟩] 1 false), (4, cacheRow ((n - 64 : Nat) : Int) (.slice (some ⟨244, 0, none⟩) 1 1) 2 ((34 + v : Nat) : Int)), (244, .row (recCells c v) 6 false)] 245) S' := by
  have h := openPre n cs
  have e1 : IntKind.wrap IntKind.i64 ((n : Int) - 64) = ((n - 64 : Nat) : Int) := wrapSub (b := 64) (by omega) (by omega)
  have e2 : IntKind.wrap IntKind.i64 (0 + (n : Int)) = (n : Int) := by rw [Int.zero_add]; exact wrap64 (by omega) (by omega)
  have e3 : IntKind.wrap IntKind.i64 ((n : Int) - 0) = (n : Int) := by rw [Int.sub_zero]; exact wrap64 (by omega) (by omega)
  have e4 : IntKind.wrap IntKind.i64 (((n - 64 : Nat) : Int) + 32) = ((n - 32 : Nat) : Int) := by rw [wrap64 (by omega) (by omega)]; omega
  have e5 : List.take 0 (List.drop 0 (zerosL [Value.int IntKind.u8 0] 0)) ++ List.take ((n - 0) * 1) (List.drop 0 cs) = cs := by
    rw [Nat.sub_zero, takeAll (by omega)]; rfl
  rw [e1, e2, e3, e4, Int.toNat_natCast, Int.toNat_natCast, Int.toNat_natCast, e5] at h
  have r1 := Runs.path yx3 h (by
    have f1 : decide (0 < (n : Int)) = true := decide_eq_true (by omega)
    have f2 : decide ((n : Int) < 0) = false := decide_eq_false (by omega)
    have f3 : decide ((n : Int) < (n : Int)) = false := decide_eq_false (by omega)
    simp only [f1, f2, f3, hcs, hm1, hm2, ones_bytes hcs, hlen, same, sameL, same1, sameM, sameA, beqBytes_self, decide_true, beq_self_eq_true, true_and, and_true, Bool.and_self, Bool.and_true, Bool.true_and, Bool.not_true, Bool.not_false, Bool.and_eq_true, decide_eq_true_eq, Bool.not_eq_true', decide_eq_false_iff_not, List.length_cons, List.length_nil, Nat.sub_zero, Nat.zero_add]
    omega)
  rw [Nat.sub_zero, Nat.zero_add, Nat.sub_zero, Nat.sub_zero] at r1
  have r2 := SR.of mixed okN_ok call3 good_parts.2.1 (Runs.path yx3 (openHead n (n - 64) n cs cs ((n - 64 : Nat) : Int)) rfl)
  have r30 := found (n := n) (l := n - 64) (cp := n) (sz := ((n - 64 : Nat) : Int)) hcs hcs (by omega) (by omega) (by omega) h1 hv
  have r31 := scan_one (n := n) (v := v) (c := c) (l := n - 64) (cp := n) (sz := ((n - 64 : Nat) : Int)) hcs hcs (by omega) (by omega) (by omega) (n - 64 - (34 + v)) (34 + v) (by omega) (fun i hi hi2 => hno i hi hi2)
  have r3 := SR.loop (SL.step r30 r31)
  have r4 := SR.of mixed okN_ok call3 good_parts.2.2.2 (Runs.path yx3 (openPost1 n (n - 64) n (n - 64) v c cs cs ((n - 64 : Nat) : Int) (some (.bool (decide (((n - 64 : Nat) : Int) < ((n - 64 : Nat) : Int)))))) (by
    unfold recCells
    simp only [same, sameL, same1, sameM, sameA, beqBytes_self, decide_true, beq_self_eq_true, splice, List.take_succ_cons, List.take_zero, List.drop_succ_cons, List.drop_zero, List.drop_nil, List.nil_append, List.cons_append, List.append_nil, List.length_cons, List.length_nil, Nat.zero_add, Nat.reduceAdd, List.all_cons, List.all_nil, oneInt, Bool.and_self, Bool.and_true, Bool.true_and, Bool.not_true, Bool.not_false]
    kernel_rfl))
  refine ⟨_, by rw [code8]; exact SR.parts mixed okN_ok call3 pre8 _ _ (by simp [pre8]) good_parts.1 r1 (SR.preKept (oS_kept hcs hcs ⟨by kernel_rfl, by kernel_rfl, by kernel_rfl, by kernel_rfl, by kernel_rfl, by kernel_rfl⟩ (Nat.le_of_ble_eq_true rfl) rfl) (Nat.le_of_ble_eq_true rfl) (SR.seq (SR.seq r2 (SR.block_exit r3)) r4)), ?_⟩
  refine Kept.ofL (fun p hp => ?_) (Nat.le_of_ble_eq_true rfl) rfl
  simp only [List.mem_cons, List.not_mem_nil, or_false] at hp
  rcases hp with rfl | rfl | rfl | rfl | rfl
  · exact ⟨by kernel_rfl, Nat.le_of_ble_eq_true rfl, fun π hk => bytes_ren hcs π⟩
  · exact ⟨by kernel_rfl, Nat.le_of_ble_eq_true rfl, fun π hk => lowE_ren hk rfl⟩
  · exact ⟨by kernel_rfl, Nat.le_of_ble_eq_true rfl, fun π hk => lowE_ren hk rfl⟩
  · exact ⟨by kernel_rfl, Nat.le_of_ble_eq_true rfl, fun π hk => lowE_ren hk rfl⟩
  · exact ⟨by kernel_rfl, Nat.le_of_ble_eq_true rfl, fun π hk => lowE_ren hk rfl⟩
end
end Go.Xe
/-
  Open (8): known functions, one for a disk with no record, one for a disk with a record at its begin.
-/
set_option linter.unusedVariables false
set_option linter.unusedSimpArgs false
namespace Go.Xe
open Go Go.Proofs

/-- no record from a place on -/
def noRecs (cs : List Value) (l k : Nat) : Bool := (List.range (l - k)).all fun i => !isRec cs l (k + i)
theorem noRecs_is {cs : List Value} {l k : Nat} : noRecs cs l k = true ↔ ∀ i, k ≤ i → i < l → isRec cs l i = false := by
  unfold noRecs
  rw [List.all_eq_true]
  constructor
  · intro h i h1 h2
    have := h (i - k) (List.mem_range.2 (by omega))
    rw [show k + (i - k) = i by omega] at this
    simpa using this
  · intro h i hi
    rw [List.mem_range] at hi
    simp [h (k + i) (by omega) (by omega)]

def pi3 (q l p : Nat) (S : St) : Nat → Nat := fun i => if i = 0 then q else if i = 1 then l else if i = 2 then p else S.next + (i - 3)
theorem pi3_new (q l p : Nat) (S : St) {i : Nat} (h : 3 ≤ i) : pi3 q l p S i = S.next + (i - 3) := by
  unfold pi3; rw [if_neg (by omega), if_neg (by omega), if_neg (by omega)]
theorem emb3 {q l p n : Nat} {cs : List Value} {S : St} (hq : q < S.next) (hl : l < S.next) (hp : p < S.next) (h1 : p ≠ q) (h2 : p ≠ l) (h3 : q ≠ l) : Emb (pi3 q l p S) (oDisk n cs) S :=
  { inj := fun i j hi hj h => by
      have hi' : i < 3 := hi
      have hj' : j < 3 := hj
      obtain rfl | rfl | rfl : i = 0 ∨ i = 1 ∨ i = 2 := by omega
      all_goals (obtain rfl | rfl | rfl : j = 0 ∨ j = 1 ∨ j = 2 := by omega)
      all_goals (simp [pi3] at h; try omega)
    lt := fun i hi => by
      have hi' : i < 3 := hi
      obtain rfl | rfl | rfl : i = 0 ∨ i = 1 ∨ i = 2 := by omega
      all_goals (simp [pi3]; omega)
    new := fun i hi => pi3_new q l p S hi
    glob := rfl }

def diskAt (q l n : Nat) : Ent := .row [.slice (some ⟨q, 0, none⟩) n n, .slice (some ⟨l, 0, none⟩) n n, .slice none 0 0, .int .i64 (-1), .bool false] 0 false
def cacheAt (p m : Nat) (sz : Int) (recs : Value) (nx hd : Int) : Ent := .row [.pointer (some ⟨p, 0, none⟩), .int .i64 sz, .int .u64 0, .int .i64 0, recs, .map (some m), .int .u64 nx, .int .i64 hd, .int .i64 0, .bool false] 0 false

theorem disk_ren (q l p n : Nat) (S : St) : RenE (pi3 q l p S) (diskRow n) (diskAt q l n) :=
  .row (.cons (by have := RenV.slice (π := pi3 q l p S) 0 0 n n; exact this) (.cons (by have := RenV.slice (π := pi3 q l p S) 1 0 n n; exact this) (.cons (.plain1 rfl) (.cons (.int _ _) (.cons (.bool _) .nil)))))
theorem cache_ren (q l p : Nat) (S : St) (sz nx hd : Int) {r r' : Value} (hr : RenV (pi3 q l p S) r r') : RenE (pi3 q l p S) (cacheRow sz r nx hd) (cacheAt p S.next sz r' nx hd) :=
  .row (.cons (by have := RenV.ptr (π := pi3 q l p S) 2 0; exact this) (.cons (.int _ _) (.cons (.int _ _) (.cons (.int _ _) (.cons hr (.cons (by
    have := RenV.map (π := pi3 q l p S) 3
    rw [pi3_new q l p S (by omega)] at this
    exact this) (.cons (.int _ _) (.cons (.int _ _) (.cons (.int _ _) (.cons (.bool _) .nil))))))))))

theorem small3 {q l p n : Nat} {cs : List Value} {S : St} (hb : cs.all isByte = true) (hq : S.heap.get q = some (.row cs 1 false)) (hp : S.heap.get p = some (diskAt q l n)) :
    ∀ i x, (oDisk n cs).heap.get i = some x → i < (oDisk n cs).next ∧ ∃ y, S.heap.get (pi3 q l p S i) = some y ∧ RenE (pi3 q l p S) x y := by
  intro i x hx
  rcases get_putL _ _ i x hx with h1 | h1
  · simp [PT.get] at h1
  · simp only [List.mem_cons, List.not_mem_nil, or_false, Prod.mk.injEq] at h1
    rcases h1 with ⟨rfl, rfl⟩ | ⟨rfl, rfl⟩
    · exact ⟨Nat.le_of_ble_eq_true rfl, _, by simpa [pi3] using hq, bytes_ren hb _⟩
    · exact ⟨Nat.le_of_ble_eq_true rfl, _, by simpa [pi3] using hp, disk_ren q l p n S⟩
theorem old3 {q l p n : Nat} {cs : List Value} {S : St} {k : Nat} (h1 : k ≠ q) (h2 : k ≠ p) : ∀ i x, (oDisk n cs).heap.get i = some x → k ≠ pi3 q l p S i := by
  intro i x hx
  rcases get_putL _ _ i x hx with h | h
  · simp [PT.get] at h
  · simp only [List.mem_cons, List.not_mem_nil, or_false, Prod.mk.injEq] at h
    rcases h with ⟨rfl, _⟩ | ⟨rfl, _⟩
    · simpa [pi3] using h1
    · simpa [pi3] using h2

def openNoneF (args : List Value) (S : St) : Y (Value × St) :=
  match args with
  | [.pointer (some ⟨p, 0, none⟩)] => match S.heap.get p with
    | some (.row [.slice (some ⟨q, 0, none⟩) n n1, .slice (some ⟨l, 0, none⟩) n2 n3, .slice none 0 0, .int .i64 fu, .bool false] 0 false) => match S.heap.get q with
      | some (.row cs 1 false) => .req (decide (n1 = n ∧ n2 = n ∧ n3 = n)) (.req (decide (fu = -1)) (.req (decide (p ≠ q ∧ p ≠ l ∧ q ≠ l ∧ l < S.next)) (.req (decide (64 < n)) (.req (decide (n < 1099511627776)) (.req (decide (cs.length = n)) (.req (cs.all isByte)
          (.req (noMark cs (n - 64)) (.req (noMark cs (n - 32)) (.req (noRecs cs (n - 64) 0)
            (.pure (.tuple #[.pointer (some ⟨S.next + 1, 0, none⟩), .int .i64 0],
              { S with heap := (S.heap.set S.next (some (.map [] 0 false))).set (S.next + 1) (some (cacheAt p S.next ((n - 64 : Nat) : Int) (.slice none 0 0) 1 0)), next := S.next + 2 })))))))))))
      | _ => none
    | _ => none
  | _ => none

theorem openNoneF_sound (args : List Value) (S : St) (v : Value) (S' : St) (hx : openNoneF args S = some (true, (v, S'))) (α : Place) (w : World) (args' : Array Value) (h : Rel α S w) (ha : LRel α args args'.toList) :
    Calls Tryd.prog 8 args' w fun e w' => ∃ β v', e = .returned v' ∧ Next α S w β S' w' ∧ VRel β v v' := by
  unfold openNoneF at hx
  split at hx
  · rename_i p
    split at hx
    · rename_i q n n1 l n2 n3 fu hp
      split at hx
      · rename_i cs hq
        simp only [Y.req_is, Y.pure_is, decide_eq_true_eq, Prod.mk.injEq] at hx
        obtain ⟨⟨rfl, rfl, rfl⟩, rfl, ⟨g1, g2, g3, g4⟩, h1, h2, h3, h4, h5, h6, h7, rfl, rfl⟩ := hx
        have hp' : S.heap.get p = some (diskAt q l n3) := hp
        have hlq := h.live_lt hq
        have hlp := h.live_lt hp
        have he := emb3 (n := n3) (cs := cs) hlq g4 hlp g1 g2 g3
        have hsm := small3 h4 hq hp'
        obtain ⟨T, hrun, hk⟩ := open_none (by omega) h1 h3 h4 h5 h6 (fun i hi => noRecs_is.1 h7 i (Nat.zero_le _) hi)
        have hl : LRel (fun i => α (pi3 q l p S i)) [.pointer (some ⟨2, 0, none⟩)] args'.toList :=
          (RenL.lrel (π := pi3 q l p S) (.cons (RenV.ptr 2 0) .nil) α _).2 ha
        refine (SR.calls (v := .tuple #[.pointer (some ⟨4, 0, none⟩), .int .i64 0]) (f := 8) (fn := Tryd.f8) Tryd.func8 body8 (hrun.forget hk (Nat.le_of_ble_eq_true rfl) (lowA_ren (m := 5) (by kernel_rfl))) (.inr rfl) (by kernel_rfl) (h.small he hsm) hl).mono ?_
        rintro x w' ⟨β, v', rfl, hn, hv⟩
        obtain ⟨γ, hg, hβ⟩ := hn.large (S' := { S with heap := (S.heap.set S.next (some (.map [] 0 false))).set (S.next + 1) (some (cacheAt p S.next ((n3 - 64 : Nat) : Int) (.slice none 0 0) 1 0)), next := S.next + 2 }) h he hsm rfl rfl (fun k y hk => by
          have hk' : ((S.heap.set S.next (some (.map [] 0 false))).set (S.next + 1) (some (cacheAt p S.next ((n3 - 64 : Nat) : Int) (.slice none 0 0) 1 0))).get k = some y := hk
          rw [PT.get_set] at hk'
          split at hk'
          · rename_i hkk; cases hk'
            exact .inl ⟨4, cacheRow ((n3 - 64 : Nat) : Int) (.slice none 0 0) 1 0, by rw [pi3_new q l p S (by omega)]; omega, by kernel_rfl, cache_ren q l p S _ _ _ (.plain1 rfl), fun hr => by cases hr⟩
          · rw [PT.get_set] at hk'
            split at hk'
            · rename_i hkk; cases hk'
              exact .inl ⟨3, .map [] 0 false, by rw [pi3_new q l p S (by omega)]; omega, by kernel_rfl, lowE_ren (m := 0) (fun j hj => by omega) rfl, fun hr => by cases hr⟩
            · by_cases hkq : k = q
              · subst hkq; rw [hq] at hk'; cases hk'
                exact .inl ⟨0, .row cs 1 false, by simp [pi3], by kernel_rfl, bytes_ren h4 _, fun hr => by cases hr⟩
              · by_cases hkp : k = p
                · subst hkp; rw [hp'] at hk'; cases hk'
                  exact .inl ⟨2, diskRow n3, by simp [pi3], by kernel_rfl, disk_ren q l k n3 S, fun hr => by cases hr⟩
                · exact .inr ⟨hk', h.live_lt hk', old3 hkq hkp⟩)
        refine ⟨γ, v', rfl, hg, ?_⟩
        rw [hβ] at hv
        refine (RenV.tuple (π := pi3 q l p S) (.cons ?_ (.cons (.int _ _) .nil)) γ v').1 hv
        have := RenV.ptr (π := pi3 q l p S) 4 0
        rw [pi3_new q l p S (by omega)] at this
        exact this
      · cases hx
    · cases hx
  · cases hx
def isOne (cs : List Value) (l : Nat) (c : UInt8) : Bool :=
  isRec cs l 0 && decide (getFrom 0 0 (List.take 8 (List.drop (0 + 3) cs)) = 1) && decide (getFrom 0 0 (List.take 8 (List.drop (0 + 11) cs)) = 1) && decide (rdK cs 0 = 1) &&
    decide (bytesOf (List.take 1 (List.drop (0 + 25) cs)) = [c]) && decide (byteN cs (0 + 2) = 0)
theorem isOne_is {cs : List Value} {l : Nat} {c : UInt8} (h : isOne cs l c = true) : IsOne cs l (rdV cs 0) c := by
  unfold isOne at h
  simp only [Bool.and_eq_true, decide_eq_true_eq] at h
  obtain ⟨⟨⟨⟨⟨h1, h2⟩, h3⟩, h4⟩, h5⟩, h6⟩ := h
  exact ⟨h1, h2, h3, h4, rfl, h5, h6⟩
def oneHeap (S : St) (p n v : Nat) (c : UInt8) : PT Ent :=
  ((S.heap.set S.next (some (.map [⟨.string ⟨#[c]⟩, .agg (recCells c v).toArray, 0⟩] 1 false))).set (S.next + 1) (some (cacheAt p S.next ((n - 64 : Nat) : Int) (.slice (some ⟨S.next + 241, 0, none⟩) 1 1) 2 ((34 + v : Nat) : Int)))).set (S.next + 241)
    (some (.row (recCells c v) 6 false))

def openOneF (c : UInt8) (args : List Value) (S : St) : Y (Value × St) :=
  match args with
  | [.pointer (some ⟨p, 0, none⟩)] => match S.heap.get p with
    | some (.row [.slice (some ⟨q, 0, none⟩) n n1, .slice (some ⟨l, 0, none⟩) n2 n3, .slice none 0 0, .int .i64 fu, .bool false] 0 false) => match S.heap.get q with
      | some (.row cs 1 false) => .req (decide (n1 = n ∧ n2 = n ∧ n3 = n)) (.req (decide (fu = -1)) (.req (decide (p ≠ q ∧ p ≠ l ∧ q ≠ l ∧ l < S.next)) (.req (decide (64 < n)) (.req (decide (n < 1099511627776)) (.req (decide (cs.length = n)) (.req (cs.all isByte)
          (.req (noMark cs (n - 64)) (.req (noMark cs (n - 32)) (.req (isOne cs (n - 64) c) (.req (decide (34 + rdV cs 0 ≤ n - 64)) (.req (noRecs cs (n - 64) (34 + rdV cs 0))
            (.pure (.tuple #[.pointer (some ⟨S.next + 1, 0, none⟩), .int .i64 0],
              { S with heap := oneHeap S p n (rdV cs 0) c, next := S.next + 242 })))))))))))))
      | _ => none
    | _ => none
  | _ => none

theorem openOneF_sound (c : UInt8) (args : List Value) (S : St) (v : Value) (S' : St) (hx : openOneF c args S = some (true, (v, S'))) (α : Place) (w : World) (args' : Array Value) (h : Rel α S w) (ha : LRel α args args'.toList) :
    Calls Tryd.prog 8 args' w fun e w' => ∃ β v', e = .returned v' ∧ Next α S w β S' w' ∧ VRel β v v' := by
  unfold openOneF at hx
  split at hx
  · rename_i p
    split at hx
    · rename_i q n n1 l n2 n3 fu hp
      split at hx
      · rename_i cs hq
        simp only [Y.req_is, Y.pure_is, decide_eq_true_eq, Prod.mk.injEq] at hx
        obtain ⟨⟨rfl, rfl, rfl⟩, rfl, ⟨g1, g2, g3, g4⟩, h1, h2, h3, h4, h5, h6, h7, h8, h9, rfl, rfl⟩ := hx
        have hp' : S.heap.get p = some (diskAt q l n3) := hp
        have hlq := h.live_lt hq
        have hlp := h.live_lt hp
        have he := emb3 (n := n3) (cs := cs) hlq g4 hlp g1 g2 g3
        have hsm := small3 h4 hq hp'
        obtain ⟨T, hrun, hk⟩ := open_one (v := rdV cs 0) (c := c) (by omega) h1 h3 h4 h5 h6 (isOne_is h7) h8 (fun i hi hi2 => noRecs_is.1 h9 i hi hi2)
        have hl : LRel (fun i => α (pi3 q l p S i)) [.pointer (some ⟨2, 0, none⟩)] args'.toList :=
          (RenL.lrel (π := pi3 q l p S) (.cons (RenV.ptr 2 0) .nil) α _).2 ha
        refine (SR.calls (v := .tuple #[.pointer (some ⟨4, 0, none⟩), .int .i64 0]) (f := 8) (fn := Tryd.f8) Tryd.func8 body8 (hrun.forget hk (Nat.le_of_ble_eq_true rfl) (lowA_ren (m := 245) (by kernel_rfl))) (.inr rfl) (by kernel_rfl) (h.small he hsm) hl).mono ?_
        rintro x w' ⟨β, v', rfl, hn, hv⟩
        obtain ⟨γ, hg, hβ⟩ := hn.large (S' := { S with heap := oneHeap S p n3 (rdV cs 0) c, next := S.next + 242 }) h he hsm rfl rfl (fun k y hk => by
          have hk' : (oneHeap S p n3 (rdV cs 0) c).get k = some y := hk
          unfold oneHeap at hk'
          rw [PT.get_set] at hk'
          split at hk'
          · rename_i hkk; cases hk'
            exact .inl ⟨244, .row (recCells c (rdV cs 0)) 6 false, by rw [pi3_new q l p S (by omega)]; omega, by kernel_rfl, lowE_ren (m := 0) (fun j hj => by omega) rfl, fun hr => by cases hr⟩
          · rw [PT.get_set] at hk'
            split at hk'
            · rename_i hkk; cases hk'
              exact .inl ⟨4, cacheRow ((n3 - 64 : Nat) : Int) (.slice (some ⟨244, 0, none⟩) 1 1) 2 ((34 + rdV cs 0 : Nat) : Int), by rw [pi3_new q l p S (by omega)]; omega, by kernel_rfl, cache_ren q l p S _ _ _ (by
                have := RenV.slice (π := pi3 q l p S) 244 0 1 1
                rw [pi3_new q l p S (by omega)] at this
                exact this), fun hr => by cases hr⟩
            · rw [PT.get_set] at hk'
              split at hk'
              · rename_i hkk; cases hk'
                exact .inl ⟨3, .map [⟨.string ⟨#[c]⟩, .agg (recCells c (rdV cs 0)).toArray, 0⟩] 1 false, by rw [pi3_new q l p S (by omega)]; omega, by kernel_rfl, lowE_ren (m := 0) (fun j hj => by omega) rfl, fun hr => by cases hr⟩
              · by_cases hkq : k = q
                · subst hkq; rw [hq] at hk'; cases hk'
                  exact .inl ⟨0, .row cs 1 false, by simp [pi3], by kernel_rfl, bytes_ren h4 _, fun hr => by cases hr⟩
                · by_cases hkp : k = p
                  · subst hkp; rw [hp'] at hk'; cases hk'
                    exact .inl ⟨2, diskRow n3, by simp [pi3], by kernel_rfl, disk_ren q l k n3 S, fun hr => by cases hr⟩
                  · exact .inr ⟨hk', h.live_lt hk', old3 hkq hkp⟩)
        refine ⟨γ, v', rfl, hg, ?_⟩
        rw [hβ] at hv
        refine (RenV.tuple (π := pi3 q l p S) (.cons ?_ (.cons (.int _ _) .nil)) γ v').1 hv
        have := RenV.ptr (π := pi3 q l p S) 4 0
        rw [pi3_new q l p S (by omega)] at this
        exact this
      · cases hx
    · cases hx
  · cases hx
end Go.Xe
/-
  The numbers of what is new may be changed.
-/
set_option linter.unusedSimpArgs false
set_option linter.unusedVariables false
namespace Go.Xe
open Go

/-- T is what stays of S', the numbers named anew: the number j stood for π j. -/
structure Named (π : Nat → Nat) (S T S' : St) : Prop where
  old : ∀ j, j < S.next → π j = j
  heap : ∀ j e, T.heap.get j = some e → j < T.next ∧ ∃ x, S'.heap.get (π j) = some x ∧ RenE π e x ∧ (π j < S.next → π j = j ∧ e = x)
  inj : ∀ j k e f, T.heap.get j = some e → T.heap.get k = some f → π j = π k → j = k
  none : ∀ j, T.next ≤ j → S'.next ≤ π j
  next : S.next ≤ T.next
  glob : T.glob = S'.glob
  gle : T.glob ≤ T.next
  gkeep : ∀ j, j < T.glob → π j = j

theorem Next.named {α β : Place} {S S' T : St} {w w' : World} {π : Nat → Nat} (h : Next α S w β S' w') (k : Named π S T S') (hr : Rel α S w) : Next α S w (fun j => β (π j)) T w' := by
  have hlt : ∀ j l, β (π j) = some l → j < T.next := fun j l hl => by
    rcases Nat.lt_or_ge j T.next with h1 | h1
    · exact h1
    · have := h.rel.fresh _ l hl
      have := k.none j h1
      omega
  refine ⟨fun i l hl => ?_, ⟨fun i e hi => ?_, fun i j e f l q hij hi hj hro hl hq => ?_, fun i l hl => hlt i l hl, fun i l hl => h.rel.size _ l hl, fun i l hi hl => ?_, k.gle⟩, h.frame, fun j f q hj hf hq => ?_, k.next, ?_, fun i hi => ?_, fun i e hi hlt' => ?_, fun i e hi hro => ?_⟩
  · show β (π i) = _
    rw [k.old i (hr.fresh i l hl)]
    exact h.ext i l hl
  · obtain ⟨_, x, hx, hren, _⟩ := k.heap i e hi
    obtain ⟨l, hl, he⟩ := h.rel.ent _ x hx
    exact ⟨l, hl, (hren.rel β w' l).2 he⟩
  · obtain ⟨_, x, hx, hrx, _⟩ := k.heap i e hi
    obtain ⟨_, y, hy, hry, _⟩ := k.heap j f hj
    exact h.rel.apart (π i) (π j) x y l q (fun hp => hij (k.inj i j e f hi hj hp)) hx hy (by rw [← hrx.ro, ← hry.ro]; exact hro) hl hq
  · rw [k.gkeep i hi] at hl
    exact h.rel.glob i l (by rw [← k.glob]; exact hi) hl
  · obtain ⟨_, x, hx, hrx, _⟩ := k.heap j f hj
    exact h.kept (π j) x q hx (by rw [← hrx.ro]; exact hf) hq
  · rw [k.glob]; exact h.glob
  · show β (π i) = _
    rw [k.old i hi]; exact h.old i hi
  · obtain ⟨_, x, hx, _, _⟩ := k.heap i e hi
    rw [k.old i hlt'] at hx
    exact h.ids i x hx hlt'
  · obtain ⟨_, x, hx, hrx, hsame⟩ := k.heap i e hi
    have hxr : x.ro = true := by rw [← hrx.ro]; exact hro
    have h1 := h.ros _ x hx hxr
    have h2 := hr.live_lt h1
    obtain ⟨h3, rfl⟩ := hsame h2
    rw [h3] at h1
    exact h1

section
variable {P : Program} {c : Code} {a a' b : XAct} {S S' T : St} {e : XE} {π : Nat → Nat}
theorem SR.named (h : SR P c a S e a' S') (k : Named π S T S') (hlen : b.length = a'.length) (ha : ∀ i v, slot b i = some v → ∃ u, slot a' i = some u ∧ RenV π v u) : SR P c a S e b T :=
  fun α w act Q hr har hQ => h α w act Q hr har (fun β w' act' hn ha' hd => by
    refine hQ _ w' act' (hn.named k hr) ⟨by rw [hlen]; exact ha'.1, fun i v hi => ?_⟩ hd
    obtain ⟨u, hu, hren⟩ := ha i v hi
    obtain ⟨v', h1, h2⟩ := ha'.2 i u hu
    exact ⟨v', h1, (hren β v').2 h2⟩)
end
end Go.Xe
/-
  Parts of code, one after the other; behind them the state is changed to a weaker one.
-/
set_option linter.unusedSimpArgs false
set_option linter.unusedVariables false
namespace Go.Xe
open Go

/-- From S, a state S1 may be taken for T. -/
def Moves (S : St) (a1 : XAct) (S1 : St) (b : XAct) (T : St) : Prop :=
  ∀ (α γ : Place) (w w' : World) (tmps : Array Value), Rel α S w → Next α S w γ S1 w' → ARel γ a1 tmps → ∃ γ', Next α S w γ' T w' ∧ ARel γ' b tmps
theorem Moves.refl (S : St) (a1 : XAct) (S1 : St) : Moves S a1 S1 a1 S1 := fun α γ w w' tmps _ hn ha => ⟨γ, hn, ha⟩
theorem Moves.kept {S S1 T : St} {a1 : XAct} {m : Nat} (k : Kept m T S1) (hm : S.next ≤ m) (ha : ∀ i v, slot a1 i = some v → ∀ π, Keeps m π → RenV π v v) : Moves S a1 S1 a1 T :=
  fun α γ w w' tmps hr hn har => by
    obtain ⟨β', hn', hv⟩ := hn.forget k hm hr
    refine ⟨β', hn', har.1, fun i v hi => ?_⟩
    obtain ⟨v', h1, h2⟩ := har.2 i v hi
    exact ⟨v', h1, hv v v' (ha i v hi) h2⟩
theorem Moves.named {S S1 T : St} {a1 b : XAct} {π : Nat → Nat} (k : Named π S T S1) (hlen : b.length = a1.length) (ha : ∀ i v, slot b i = some v → ∃ u, slot a1 i = some u ∧ RenV π v u) : Moves S a1 S1 b T :=
  fun α γ w w' tmps hr hn har => by
    refine ⟨_, hn.named k hr, by rw [hlen]; exact har.1, fun i v hi => ?_⟩
    obtain ⟨u, hu, hren⟩ := ha i v hi
    obtain ⟨v', h1, h2⟩ := har.2 i u hu
    exact ⟨v', h1, (hren γ v').2 h2⟩

section
variable {P : Program} {okF : FuncId → Bool} {call : XCall} {fg : Nat → Option Nat} {z : Code} {a1 : XAct} {S1 : St}
theorem parts_go (hm : P.follows .mixedOrders = true) (hF : OkF P okF) (hC : CallSound P call) : ∀ (l : List Code) (a2 : XAct) (S2 : St), l ≠ [] → goodCode (seqs l) = true → Runs P okF call fg (seqs l) a2 S2 .normal a1 S1 →
    ∀ (α β : Place) (S : St) (w w2 : World) (act2 : Act) (Q : Exit → Act → World → Prop), Next α S w β S2 w2 → ARel β a2 act2.tmps →
      (∀ (γ : Place) (w' : World) (act' : Act), Next α S w γ S1 w' → ARel γ a1 act'.tmps → act'.defers = act2.defers → z.wp P Q act' w') → (appL l z).wp P Q act2 w2
  | [], a2, S2, h, _, _ => absurd rfl h
  | [c], a2, S2, _, hg, h => fun α β S w w2 act2 Q n0 ha hz =>
    wp_seq (SR.of hm hF hC hg h β w2 act2 _ n0.rel ha (fun γ w' act' hn ha' hd => hz γ w' act' (n0.trans hn) ha' hd))
  | c :: d :: r, a2, S2, _, hg, h => fun α β S w w2 act2 Q n0 ha hz => by
    simp only [seqs, goodCode, Bool.and_eq_true] at hg
    obtain ⟨a3, S3, h1, h2⟩ := h.seq_inv
    exact wp_seq (SR.of hm hF hC hg.1 h1 β w2 act2 _ n0.rel ha (fun γ w' act' hn ha' hd =>
      parts_go hm hF hC (d :: r) a3 S3 (by simp) hg.2 h2 α γ S w w' act' Q (n0.trans hn) ha' (fun γ' w'' act'' hn' ha'' hd' => hz γ' w'' act'' hn' ha'' (hd'.trans hd))))

/-- Parts, and then the rest from a weaker state. -/
theorem SR.partsM {a a' b : XAct} {S S' T : St} {e : XE} (hm : P.follows .mixedOrders = true) (hF : OkF P okF) (hC : CallSound P call) {l : List Code} (hl : l ≠ []) (hg : goodCode (seqs l) = true)
    (h : Runs P okF call fg (seqs l) a S .normal a1 S1) (mv : Moves S a1 S1 b T) (h' : SR P z b T e a' S') : SR P (appL l z) a S e a' S' :=
  fun α w act Q hr ha hQ => parts_go hm hF hC l a S hl hg h α α S w w act Q (Next.refl hr) ha (fun γ w' act' hn ha' hd => by
    obtain ⟨γ', hn', ha''⟩ := mv α γ w w' _ hr hn ha'
    exact h' γ' w' act' Q hn'.rel ha'' (fun δ w'' act'' hn'' hb hd' => hQ δ w'' act'' (hn'.trans hn'') hb (hd'.trans hd)))
end
end Go.Xe
/-
  CacheOpens (3): states, and what is known of functions.
-/
set_option linter.unusedVariables false
namespace Go.Xe
open Go Go.Proofs
def tri (g0 g1 : Ent) (eb ev : Option Ent) (l : List (Nat × Ent)) (n : Nat) : St := { heap := putL ((((PT.leaf.set 0 (some g0)).set 1 (some g1)).set 2 eb).set 3 ev) l, next := n, glob := 1 }
def wordsL : List Value := [.string ⟨#[105, 109, 112, 111, 114, 116]⟩, .string ⟨#[116, 121, 112, 101]⟩, .string ⟨#[100, 101, 102]⟩, .string ⟨#[108, 101, 116]⟩, .string ⟨#[105, 110]⟩, .string ⟨#[105, 102]⟩, .string ⟨#[116, 104, 101, 110]⟩, .string ⟨#[101, 108, 115, 101]⟩, .string ⟨#[109, 97, 116, 99, 104]⟩, .string ⟨#[102, 110]⟩, .string ⟨#[116, 114, 117, 101]⟩, .string ⟨#[102, 97, 108, 115, 101]⟩]
/-- alive, where the words lie -/
def aliveF (K : Nat) (args : List Value) (S : St) : Y (Value × St) :=
  match args, S.heap.get 0, S.heap.get 1 with
  | [], some (.row [.slice (some ⟨1, 0, none⟩) 12 12] 0 true), some (.row ws 1 true) => .req (decide (1 ≤ S.glob)) (.req (sameL ws wordsL) (.pure (.bool true, S)))
  | _, _, _ => none
def orcB : Orc := fun f => if f = 5 then some plainFn else if f = 8 then some openNoneF else orc3 f
def orcN : Orc := fun f => if f = 8 then some openNoneF else orc3 f
def orcO : Orc := fun f => if f = 8 then some (openOneF 107) else orc3 f
noncomputable def ycB : YCall := ygo Tryd.prog okN orcB kp 100
noncomputable def ycN : YCall := ygo Tryd.prog okN orcN kp 100
noncomputable def ycO : YCall := ygo Tryd.prog okN orcO kp 100
def orcK (K : Nat) : Orc := fun f => if f = 13 then some (aliveF K) else orc3 f
noncomputable def ycK (K : Nat) : YCall := ygo Tryd.prog okN (orcK K) kp 100
def sl (l : List (Nat × Value)) : XAct := l.foldl (fun a p => a.set p.1 (some p.2)) (List.replicate 114 none)
def byteRow (cs : List Value) : Ent := .row cs 1 false
end Go.Xe
