/- A part of the proof. -/
import Derived.Test.YtkhjbbigangbdaaGreatDoorM39
set_option linter.all false
namespace Go.Xe
open Go Go.Proofs
noncomputable abbrev zAD : Code := .seq aD zAE
noncomputable abbrev zAC : Code := appL aC zAD
noncomputable abbrev zAB : Code := appL aB zAC
def zeros : List Value := List.replicate 4096 (.int .u8 0)
theorem zerosIs : zerosL [Value.int .u8 0] 4096 = zeros := zerosL_rep 4096
theorem zeros_bytes : zeros.all isByte = true := rep_bytes _
theorem zeros_length : zeros.length = 4096 := List.length_replicate
theorem zeros_run : zeros = runDisk 4096 0 [] := by
 unfold runDisk splice zeros
 rw [List.take_zero, List.nil_append, List.nil_append]; rfl
theorem zeros_ok : RunOk 4096 [] := runOk_plain (n := 0) (cs := []) rfl (by omega) (by simp) (by omega)
theorem zeros_mark (i : Nat) (h : i + 3 < 4096) : noMark zeros i = true := by rw [zeros_run]; exact zeros_ok.mark 0 i (by simp) h
theorem zeros_rec (i : Nat) (h : i < 4032) : isRec zeros 4032 i = false := by rw [zeros_run]; exact zeros_ok.norec 0 i (by simp) h
section
variable (hL : OrcSound Tryz.prog orcL) {ws cs ls : List Value} (hs : sameL ws wordsL = true) (hw : ws.all plain1 = true)
include hL hs hw
theorem endAC (h1 : cs = zeros) (h2 : ls = zeros) : EndsA zAC (slA [(1, .pointer (some ⟨12, 0, none⟩)), (3, .pointer (some ⟨14, 0, none⟩)), (36, .bool false)])
 (tri gW (gV ws) none none [(5, byteRow cs), (7, byteRow ls), (12, diskAt 5 7 4096), (13, .map [] 0 false), (14, cacheAt 12 13 4032 (.slice none 0 0) 1 0)] 15) := by
 have hcz : cs.length = 4096 := by rw [h1, zeros_length]
 have hlz : ls.length = 4096 := by rw [h2, zeros_length]
 have hcb : cs.all isByte = true := by rw [h1, zeros_bytes]
 have hvs : oneL.all isByte = true := rfl
 have hTl : (imgRow 0 1 1 97 oneL).length = 37 := imgRow_length _ _ _ _ _
 have hTb : (imgRow 0 1 1 97 oneL).all isByte = true := imgRow_bytes 0 1 1 97 rfl
 have hT : List.take 37 (imgRow 0 1 1 97 oneL) = imgRow 0 1 1 97 oneL := List.take_of_length_le (Nat.le_of_eq hTl)
 have hpb := putDisk_bytes (cs := cs) (vs := oneL) 97 hcb hvs
 have hpl : (putDisk cs 97 oneL).length = 4096 := by rw [putDisk_length 97 (by rw [hcz]; decide), hcz]
 have hp4 : List.take 4096 (putDisk cs 97 oneL) = putDisk cs 97 oneL := List.take_of_length_le (by omega)
 have hsl : splice ls 0 (putDisk cs 97 oneL) = putDisk cs 97 oneL := by have := splice_full (cs := ls) (ls := putDisk cs 97 oneL) hlz hpl; rwa [hp4] at this
 have dr : ∀ i, 37 ≤ i → (putDisk cs 97 oneL).drop i = cs.drop i := fun i hi => putDisk_drop cs 97 oneL hi
 have h := alC cs ls gW (gV ws)
 simp only [oneIs, List.drop_zero, hT, splice_put, hp4, hsl] at h
 refine EndsA.more (l := aC) (z := zAD) (fg := kp 8) callN (List.cons_ne_nil _ _) good_aC (Runs.path yxN h ?_) (Moves.kept (m := 130) (Kept.tri (l := [(5, byteRow (putDisk cs 97 oneL)), (7, byteRow (putDisk cs 97 oneL)), (12, diskAt 5 7 4096), (13, .map [⟨.string ⟨#[97]⟩, .agg (recCells 97 3).toArray, 0⟩] 1 false), (14, cacheAt 12 13 4032 (.slice (some ⟨129, 0, none⟩) 1 1) 2 37), (129, .row (recCells 97 3) 6 false)]) (eb := none) (ev := none) hw (by kernel_rfl) (by kernel_rfl) (by simp) (by simp) (by intro e he; cases he) (by intro e he; cases he) (fun p hp => ?_) (by omega) (Nat.le_of_ble_eq_true rfl) rfl) (Nat.le_of_ble_eq_true rfl) (slA_low (by kernel_rfl)))
  (endAD hL (rest := cs.drop 37) hs hw rfl ?_ hpl hpb hpl ?_ ?_ ?_)
 ·repeat rw [same_of]
  ·simp only [oneIs, List.drop_zero, List.take_zero, List.nil_append, hT, hTl, hTb, hcz, hlz, hcb, hpb, hpl, hp4, splice_put, ones_bytes hTb, ones_bytes hpb]
   kernel_rfl
  all_goals rfl
 ·simp only [List.mem_cons, List.not_mem_nil, or_false] at hp
  rcases hp with rfl | rfl | rfl | rfl | rfl | rfl
  ·exact ⟨by kernel_rfl, Nat.le_of_ble_eq_true rfl, fun π hk => bytes_ren hpb π⟩
  ·exact ⟨by kernel_rfl, Nat.le_of_ble_eq_true rfl, fun π hk => bytes_ren hpb π⟩
  ·exact ⟨by kernel_rfl, Nat.le_of_ble_eq_true rfl, fun π hk => lowE_ren hk rfl⟩
  ·exact ⟨by kernel_rfl, Nat.le_of_ble_eq_true rfl, fun π hk => lowE_ren hk rfl⟩
  ·exact ⟨by kernel_rfl, Nat.le_of_ble_eq_true rfl, fun π hk => lowE_ren hk rfl⟩
  ·exact ⟨by kernel_rfl, Nat.le_of_ble_eq_true rfl, fun π hk => lowE_ren hk rfl⟩
 ·rw [List.all_eq_true] at hcb ⊢
  exact fun v hv => hcb v (List.mem_of_mem_drop hv)
 ·rw [noMark_congr (dr _ (by omega)), h1]; exact zeros_mark _ (by omega)
 ·rw [noMark_congr (dr _ (by omega)), h1]; exact zeros_mark _ (by omega)
 ·rw [noRecs_is]
  intro i hi hi2
  rw [isRec_congr (dr _ hi), h1]; exact zeros_rec i hi2
theorem endAB (h1 : cs = zeros) (h2 : ls = zeros) : EndsA zAB (slA [(1, .pointer (some ⟨12, 0, none⟩)), (2, .int .i64 0)])
 (tri gW (gV ws) none none [(5, byteRow cs), (7, byteRow ls), (12, diskAt 5 7 4096)] 13) := by
 have hcz : cs.length = 4096 := by rw [h1, zeros_length]
 have hcb : cs.all isByte = true := by rw [h1, zeros_bytes]
 have hlb : ls.all isByte = true := by rw [h2, zeros_bytes]
 have hn0 : noRecs cs 4032 0 = true := noRecs_is.2 fun i _ hi => by rw [h1]; exact zeros_rec i hi
 have hm1 : noMark cs 4032 = true := by rw [h1]; exact zeros_mark _ (by omega)
 have hm2 : noMark cs 4064 = true := by rw [h1]; exact zeros_mark _ (by omega)
 have h := alB cs ls gW (gV ws)
 refine EndsA.more (l := aB) (z := zAC) (fg := kp 8) callN (List.cons_ne_nil _ _) good_aB (Runs.path yxN h ?_) (Moves.kept (m := 15) (Kept.tri (l := [(5, byteRow cs), (7, byteRow ls), (12, diskAt 5 7 4096), (13, .map [] 0 false), (14, cacheAt 12 13 4032 (.slice none 0 0) 1 0)]) (eb := none) (ev := none) hw (by kernel_rfl) (by kernel_rfl) (by simp) (by simp) (by intro e he; cases he) (by intro e he; cases he) (fun p hp => ?_) (by omega) (Nat.le_of_ble_eq_true rfl) rfl) (Nat.le_of_ble_eq_true rfl) (slA_low (by kernel_rfl))) (endAC hL hs hw h1 h2)
 ·simp only [hcb, hm1, hm2, hn0, hcz]
  kernel_rfl
 ·simp only [List.mem_cons, List.not_mem_nil, or_false] at hp
  rcases hp with rfl | rfl | rfl | rfl | rfl
  ·exact ⟨by kernel_rfl, Nat.le_of_ble_eq_true rfl, fun π hk => bytes_ren hcb π⟩
  ·exact ⟨by kernel_rfl, Nat.le_of_ble_eq_true rfl, fun π hk => bytes_ren hlb π⟩
  ·exact ⟨by kernel_rfl, Nat.le_of_ble_eq_true rfl, fun π hk => lowE_ren hk rfl⟩
  ·exact ⟨by kernel_rfl, Nat.le_of_ble_eq_true rfl, fun π hk => lowE_ren hk rfl⟩
  ·exact ⟨by kernel_rfl, Nat.le_of_ble_eq_true rfl, fun π hk => lowE_ren hk rfl⟩
theorem alive_true : EndsA (codeOf Tryz.prog 8) (startX Tryz.f8 []) (tri gW (gV ws) none none [] 4) := by
 have h := alA gW (gV ws)
 rw [zerosIs] at h
 rw [code13]
 refine EndsA.more (l := aA) (z := zAB) (fg := kp 8) callN (List.cons_ne_nil _ _) good_aA (Runs.path yxN h ?_) (Moves.kept (m := 13) (Kept.tri (l := [(5, byteRow zeros), (7, byteRow zeros), (12, diskAt 5 7 4096)]) (eb := none) (ev := none) hw (by kernel_rfl) (by kernel_rfl) (by simp) (by simp) (by intro e he; cases he) (by intro e he; cases he) (fun p hp => ?_) (by omega) (Nat.le_of_ble_eq_true rfl) rfl) (Nat.le_of_ble_eq_true rfl) (slA_low (by kernel_rfl))) (endAB hL hs hw rfl rfl)
 ·repeat rw [same_of]
  ·kernel_rfl
  all_goals rfl
 ·simp only [List.mem_cons, List.not_mem_nil, or_false] at hp
  rcases hp with rfl | rfl | rfl
  ·exact ⟨by kernel_rfl, Nat.le_of_ble_eq_true rfl, fun π hk => bytes_ren zeros_bytes π⟩
  ·exact ⟨by kernel_rfl, Nat.le_of_ble_eq_true rfl, fun π hk => bytes_ren zeros_bytes π⟩
  ·exact ⟨by kernel_rfl, Nat.le_of_ble_eq_true rfl, fun π hk => lowE_ren hk rfl⟩
end
end Go.Xe
