/-
  alive: its parts, from the end to the begin.
-/
import Derived.Test.YtkhjbbigangbdaaDoorM19
import Derived.Test.YtkhjbbigangbdaaDoorM17
set_option linter.unusedVariables false
set_option linter.unusedSectionVars false
set_option linter.unusedSimpArgs false
namespace Go.Xe
open Go Go.Proofs

theorem slA_sl : (List.replicate (Tryd.f13.ntmps) (none : Option Value)) = List.replicate 125 none := by kernel_rfl
theorem slot_slA (l : List (Nat × Value)) {i : Nat} {v : Value} (h : slot (slA l) i = some v) : (i, v) ∈ l := by
  unfold slA at h
  rw [slA_sl] at h
  have key : ∀ (l : List (Nat × Value)) (a : XAct), slot (l.foldl (fun a p => a.set p.1 (some p.2)) a) i = some v → slot a i = some v ∨ (i, v) ∈ l := by
    intro l
    induction l with
    | nil => intro a h; exact .inl h
    | cons p r ih =>
      intro a h
      rcases ih (a.set p.1 (some p.2)) h with h1 | h1
      · rw [slot_set] at h1
        split at h1
        · rename_i hi; cases h1; exact .inr (by simp [← hi.1])
        · exact .inl h1
      · exact .inr (by simp [h1])
  rcases key l _ h with h1 | h1
  · exfalso
    unfold slot at h1
    rw [List.getElem?_replicate] at h1
    split at h1
    · rename_i x hx
      split at hx
      · cases hx; cases h1
      · cases hx
    · cases h1
  · exact h1
theorem slA_low {l : List (Nat × Value)} {m : Nat} (h : l.all (fun p => low m p.2) = true) : ∀ i v, slot (slA l) i = some v → ∀ π, Keeps m π → RenV π v v :=
  fun i v hv π hk => low_ren hk (List.all_eq_true.1 h (i, v) (slot_slA l hv))

/-- The code of alive comes to its end, and gives true. -/
def EndsA (c : Code) (a : XAct) (S : St) : Prop := ∃ a' S', SR Tryd.prog c a S .ret a' S' ∧ xres Tryd.prog Tryd.f13 a' S' = some (.bool true)
theorem EndsA.more {call : XCall} {fg : Nat → Option Nat} {l : List Code} {z : Code} {a a1 b : XAct} {S S1 T : St} (hC : CallSound Tryd.prog call) (hl : l ≠ []) (hg : goodCode (seqs l) = true)
    (h : Runs Tryd.prog okN call fg (seqs l) a S .normal a1 S1) (mv : Moves S a1 S1 b T) (h' : EndsA z b T) : EndsA (appL l z) a S := by
  obtain ⟨a', S', h1, h2⟩ := h'
  exact ⟨a', S', SR.partsM mixed okN_ok hC hl hg h mv h1, h2⟩
theorem EndsA.one {call : XCall} {fg : Nat → Option Nat} {c z : Code} {a a1 b : XAct} {S S1 T : St} (hC : CallSound Tryd.prog call) (hg : goodCode c = true)
    (h : Runs Tryd.prog okN call fg c a S .normal a1 S1) (mv : Moves S a1 S1 b T) (h' : EndsA z b T) : EndsA (.seq c z) a S :=
  EndsA.more (l := [c]) (z := z) hC (List.cons_ne_nil _ _) hg h mv h'
noncomputable abbrev aL : Code := sub (codeOf Tryd.prog 13) [1, 1, 1, 1, 1, 1, 1, 1, 1, 1, 1, 1, 1, 1]
noncomputable abbrev aK : Code := sub (codeOf Tryd.prog 13) [1, 1, 1, 1, 1, 1, 1, 1, 1, 1, 1, 1, 1, 0]
noncomputable abbrev aJ : Code := sub (codeOf Tryd.prog 13) [1, 1, 1, 1, 1, 1, 1, 1, 1, 1, 1, 1, 0]
noncomputable abbrev aH : List Code := [sub (codeOf Tryd.prog 13) [1, 1, 1, 1, 1, 1, 1, 1, 1, 1, 0], sub (codeOf Tryd.prog 13) [1, 1, 1, 1, 1, 1, 1, 1, 1, 1, 1, 0]]
noncomputable abbrev aG : Code := sub (codeOf Tryd.prog 13) [1, 1, 1, 1, 1, 1, 1, 1, 1, 0]
noncomputable abbrev aF : Code := sub (codeOf Tryd.prog 13) [1, 1, 1, 1, 1, 1, 1, 1, 0]
noncomputable abbrev aE : Code := sub (codeOf Tryd.prog 13) [1, 1, 1, 1, 1, 1, 1, 0]
noncomputable abbrev aD : Code := sub (codeOf Tryd.prog 13) [1, 1, 1, 1, 1, 1, 0]
noncomputable abbrev aC : List Code := [sub (codeOf Tryd.prog 13) [1, 1, 1, 1, 0], sub (codeOf Tryd.prog 13) [1, 1, 1, 1, 1, 0]]
noncomputable abbrev aB : List Code := [sub (codeOf Tryd.prog 13) [1, 1, 0], sub (codeOf Tryd.prog 13) [1, 1, 1, 0]]
noncomputable abbrev aA : List Code := [sub (codeOf Tryd.prog 13) [0], sub (codeOf Tryd.prog 13) [1, 0]]
theorem good_aL : goodCode aL = true := by kernel_rfl
theorem good_aK : goodCode aK = true := by kernel_rfl
theorem good_aJ : goodCode aJ = true := by kernel_rfl
theorem good_aH : goodCode (seqs aH) = true := by kernel_rfl
theorem good_aG : goodCode aG = true := by kernel_rfl
theorem good_aF : goodCode aF = true := by kernel_rfl
theorem good_aE : goodCode aE = true := by kernel_rfl
theorem good_aD : goodCode aD = true := by kernel_rfl
theorem good_aC : goodCode (seqs aC) = true := by kernel_rfl
theorem good_aB : goodCode (seqs aB) = true := by kernel_rfl
theorem good_aA : goodCode (seqs aA) = true := by kernel_rfl
theorem code13 : codeOf Tryd.prog 13 = appL aA (appL aB (appL aC (.seq aD (.seq aE (.seq aF (.seq aG (appL aH (.seq aJ (.seq aK aL))))))))) := by kernel_rfl
theorem body13 : Tryd.f13.body = some (codeOf Tryd.prog 13) := by kernel_rfl

def oneL : List Value := [.int .u8 111, .int .u8 110, .int .u8 101]
def twoL : List Value := [.int .u8 116, .int .u8 119, .int .u8 111]
def cK2 : Ent := cacheAt 12 263 4032 (.slice (some ⟨504, 0, none⟩) 1 1) 2 37
def mK : Ent := .map [⟨.string ⟨#[97]⟩, .agg (recCells 97 3).toArray, 0⟩] 1 false

section
variable (hL : OrcSound Tryd.prog orcL) {ws us xs : List Value} (hs : sameL ws wordsL = true) (hw : ws.all plain1 = true)
  (hub : us.all isByte = true) (hul : 29 ≤ us.length) (hu : (us.drop 26).take 3 = twoL) (hxb : xs.all isByte = true) (hxl : 29 ≤ xs.length) (hx : (xs.drop 26).take 3 = oneL)
include hL hs hw hub hul hu hxb hxl hx
theorem endAL : EndsA aL (slA [(5, .int .i64 0), (6, .int .i64 0), (7, .int .i64 0), (8, .slice (some ⟨262, 26, none⟩) 3 11), (9, .int .i64 0), (10, .int .i64 0), (11, .int .i64 0), (12, .pointer (some ⟨264, 0, none⟩)), (13, .int .i64 0), (14, .slice (some ⟨521, 26, none⟩) 3 11), (15, .int .i64 0), (17, .int .i64 1)])
    (tri gW (gV ws) none none [(262, byteRow us), (263, mK), (264, cK2), (521, byteRow xs)] 522) := by
  have h := alL us xs ws
  have hc : CallSound Tryd.prog (xgoO Tryd.prog okN orcL kp 100) := xgoO_sound mixed okN_ok okN_good hL kp 100
  have hy : YX ycL (xgoO Tryd.prog okN orcL kp 100) := ygo_is orcL kp 100
  refine ⟨_, _, SR.of mixed okN_ok hc good_aL (Runs.path hy h ?_), by kernel_rfl⟩
  have b2 := bytes_ints (take_bytes hub 26 3)
  have b1 := bytes_ints (take_bytes hxb 26 3)
  rw [hu] at b2
  rw [hx] at b1
  rw [hs, hu, hx, b1, b2, decide_eq_true hul, decide_eq_true hxl]
  rfl
theorem endAK : EndsA (.seq aK aL) (slA [(5, .int .i64 0), (6, .int .i64 0), (7, .int .i64 0), (8, .slice (some ⟨262, 26, none⟩) 3 11), (9, .int .i64 0), (10, .int .i64 0), (11, .int .i64 0), (12, .pointer (some ⟨264, 0, none⟩)), (13, .int .i64 0), (14, .slice (some ⟨521, 26, none⟩) 3 11), (15, .int .i64 0)])
    (tri gW (gV ws) none none [(262, byteRow us), (263, mK), (264, cK2), (521, byteRow xs)] 522) := by
  have h := alK us xs gW (gV ws)
  refine EndsA.one (c := aK) (z := aL) (fg := kp 13) call3 good_aK (Runs.path yx3 h (by kernel_rfl)) (Moves.kept (m := 522) (Kept.tri (l := [(262, byteRow us), (263, mK), (264, cK2), (521, byteRow xs)]) (eb := none) (ev := none) hw (by kernel_rfl) (by kernel_rfl) (by simp) (by simp) (by intro e he; cases he) (by intro e he; cases he) (fun p hp => ?_) (by omega) (Nat.le_of_ble_eq_true rfl) rfl) (Nat.le_of_ble_eq_true rfl) (slA_low (by kernel_rfl))) (endAL hL hs hw hub hul hu hxb hxl hx)
  simp only [List.mem_cons, List.not_mem_nil, or_false] at hp
  rcases hp with rfl | rfl | rfl | rfl
  · exact ⟨by kernel_rfl, Nat.le_of_ble_eq_true rfl, fun π hk => bytes_ren hub π⟩
  · exact ⟨by kernel_rfl, Nat.le_of_ble_eq_true rfl, fun π hk => lowE_ren hk rfl⟩
  · exact ⟨by kernel_rfl, Nat.le_of_ble_eq_true rfl, fun π hk => lowE_ren hk rfl⟩
  · exact ⟨by kernel_rfl, Nat.le_of_ble_eq_true rfl, fun π hk => bytes_ren hxb π⟩
end
end Go.Xe
/-
  alive: Get of the new cache, Open.
-/
set_option linter.unusedVariables false
set_option linter.unusedSectionVars false
set_option linter.unusedSimpArgs false
namespace Go.Xe
open Go Go.Proofs

theorem okOrcO97 : OrcSound Tryd.prog orcO97 := fun f F h => by
  unfold orcO97 at h
  split at h
  · cases h; rename_i hf; subst hf; exact openOneF_sound 97
  · exact okOrc3 f F h
section
variable (hL : OrcSound Tryd.prog orcL) {ws us cs ls rest : List Value} (hs : sameL ws wordsL = true) (hw : ws.all plain1 = true)
  (hub : us.all isByte = true) (hul : 29 ≤ us.length) (hu : (us.drop 26).take 3 = twoL) (hcs : cs = imgRow 0 1 1 97 oneL ++ rest) (hr : rest.all isByte = true) (hz : cs.length = 4096)
include hL hs hw hub hul hu hcs hr hz
theorem endAJ : EndsA (.seq aJ (.seq aK aL)) (slA [(5, .int .i64 0), (6, .int .i64 0), (7, .int .i64 0), (8, .slice (some ⟨262, 26, none⟩) 3 11), (9, .int .i64 0), (10, .int .i64 0), (11, .int .i64 0), (12, .pointer (some ⟨264, 0, none⟩)), (13, .int .i64 0), (62, .bool false)])
    (tri gW (gV ws) none none [(5, byteRow cs), (12, diskAt 5 7 4096), (262, byteRow us), (263, mK), (264, cK2)] 505) := by
  have hvs : oneL.all isByte = true := rfl
  have hb : cs.all isByte = true := by rw [hcs, List.all_append, imgRow_bytes 0 1 1 97 hvs, hr]; rfl
  have hU : List.take 37 cs = imgRow 0 1 1 97 oneL := by rw [hcs]; exact List.take_left' (imgRow_length _ _ _ _ _)
  have hUb := imgRow_bytes 0 1 1 97 hvs
  have hUl : (imgRow 0 1 1 97 oneL).length = 37 := imgRow_length _ _ _ _ _
  have hrec : isRec (imgRow 0 1 1 97 oneL) 37 0 = true := by
    have := img_rec (c := 97) (rest := []) (l := 37) hvs (by decide) (by decide)
    rwa [List.append_nil] at this
  have hsp : splice (zerosL [Value.int IntKind.u8 0] 37) 0 (imgRow 0 1 1 97 oneL) = imgRow 0 1 1 97 oneL := by
    unfold splice
    rw [zerosL_rep, List.take_zero, List.nil_append, List.drop_eq_nil_of_le (by rw [List.length_replicate, hUl]; omega), List.append_nil]
  have hT : List.take 37 (imgRow 0 1 1 97 oneL) = imgRow 0 1 1 97 oneL := by rw [← hUl, List.take_length]
  have f1 : getFrom 0 0 (List.take 8 (List.drop 3 (imgRow 0 1 1 97 oneL))) = 1 := by
    have := img_num (c := 97) (vs := oneL) (rest := []); rwa [List.append_nil] at this
  have f3 : rdK (imgRow 0 1 1 97 oneL) 0 = 1 := by
    have := img_K (c := 97) (vs := oneL) (rest := []); rwa [List.append_nil] at this
  have f4 : rdV (imgRow 0 1 1 97 oneL) 0 = 3 := by
    have := img_V (c := 97) (vs := oneL) (rest := []) (by decide); rw [List.append_nil] at this; rw [this]; rfl
  have f5 : bytesOf (List.take 1 (List.drop 25 (imgRow 0 1 1 97 oneL))) = [97] := by
    have := img_name (c := 97) (vs := oneL) (rest := []); rwa [List.append_nil] at this
  have f6 : byteN (imgRow 0 1 1 97 oneL) 2 = 0 := by
    have := img_b2 (c := 97) (vs := oneL) (rest := []); rwa [List.append_nil] at this
  have f8 : (zerosL [Value.int .u8 0] 37).all one = true := by rw [zerosL_rep]; exact ones_bytes (rep_bytes _)
  have f9 : (zerosL [Value.int .u8 0] 37).length = 37 := by rw [zerosL_rep, List.length_replicate]
  have f10 : same (readV' (imgRow 0 1 1 97 oneL) 0 true) (readV' (imgRow 0 1 1 97 oneL) 0 true) = true := same_of (by kernel_rfl)
  have o1 : ∀ s, one (.string s) = true := fun _ => rfl
  have o2 : ∀ b, one (.bool b) = true := fun _ => rfl
  have h := alJ cs us gW (gV ws)
  simp only [Int.toNat_natCast, Nat.sub_zero, Nat.zero_add, Nat.mul_one, List.drop_zero, List.take_zero, List.nil_append, hU, hT, hsp, hrec, if_true, Bool.true_and] at h
  refine EndsA.one (c := aJ) (z := .seq aK aL) (fg := kp 13) callN good_aJ (Runs.path yxN h ?_) (Moves.kept (m := 522) (Kept.tri (l := [(262, byteRow us), (263, mK), (264, cK2), (521, byteRow (imgRow 0 1 1 97 oneL))]) (eb := none) (ev := none) hw (by kernel_rfl) (by kernel_rfl) (by simp) (by simp) (by intro e he; cases he) (by intro e he; cases he) (fun p hp => ?_) (by omega) (Nat.le_of_ble_eq_true rfl) rfl) (Nat.le_of_ble_eq_true rfl) (slA_low (by kernel_rfl))) (endAK hL hs hw hub hul hu hUb (by rw [hUl]; omega) rfl)
  · simp only [f10]
    simp only [f1, f3, f4, f5, f6, f8, f9, o1, o2, hUl, hUb, ones_bytes hUb, hz, recOf, recCells, same, sameL, same1, sameM, sameA, beqBytes_self, decide_true, beq_self_eq_true, if_true, Bool.true_and, Bool.and_true, Bool.not_true, Bool.not_false, Bool.and_self, Nat.zero_add, List.length_cons, List.length_nil, List.all_cons, List.all_nil, oneInt,
      Bool.and_eq_true, decide_eq_true_eq, Bool.not_eq_true', decide_eq_false_iff_not, true_and, and_true]
    exact ⟨by omega, by omega, rfl⟩
  · simp only [List.mem_cons, List.not_mem_nil, or_false] at hp
    rcases hp with rfl | rfl | rfl | rfl
    · exact ⟨by kernel_rfl, Nat.le_of_ble_eq_true rfl, fun π hk => bytes_ren hub π⟩
    · exact ⟨by kernel_rfl, Nat.le_of_ble_eq_true rfl, fun π hk => lowE_ren hk rfl⟩
    · exact ⟨by kernel_rfl, Nat.le_of_ble_eq_true rfl, fun π hk => lowE_ren hk rfl⟩
    · exact ⟨by kernel_rfl, Nat.le_of_ble_eq_true rfl, fun π hk => bytes_ren hUb π⟩
theorem endAH (hl : ls.all isByte = true) (hm1 : noMark cs 4032 = true) (hm2 : noMark cs 4064 = true) (hno : noRecs cs 4032 37 = true) :
    EndsA (appL aH (.seq aJ (.seq aK aL))) (slA [(1, .pointer (some ⟨12, 0, none⟩)), (5, .int .i64 0), (6, .int .i64 0), (7, .int .i64 0), (8, .slice (some ⟨262, 26, none⟩) 3 11), (9, .int .i64 0), (10, .int .i64 0), (11, .int .i64 0)])
      (tri gW (gV ws) none none [(5, byteRow cs), (7, byteRow ls), (12, diskAt 5 7 4096), (262, byteRow us)] 263) := by
  have hvs : oneL.all isByte = true := rfl
  have hb : cs.all isByte = true := by rw [hcs, List.all_append, imgRow_bytes 0 1 1 97 hvs, hr]; rfl
  have hV : rdV cs 0 = 3 := by rw [hcs, img_V (by decide)]; rfl
  have hone : isOne cs 4032 97 = true := by rw [hcs]; exact img_one hvs (by decide) (by decide)
  have h := alH cs ls us gW (gV ws)
  simp only [hV, Nat.reduceAdd] at h
  have hc : CallSound Tryd.prog (xgoO Tryd.prog okN orcO97 kp 100) := xgoO_sound mixed okN_ok okN_good okOrcO97 kp 100
  have hy : YX ycO97 (xgoO Tryd.prog okN orcO97 kp 100) := ygo_is orcO97 kp 100
  refine EndsA.more (l := aH) (z := .seq aJ (.seq aK aL)) (fg := kp 13) hc (List.cons_ne_nil _ _) good_aH (Runs.path hy h ?_) (Moves.kept (m := 505) (Kept.tri (l := [(5, byteRow cs), (12, diskAt 5 7 4096), (262, byteRow us), (263, mK), (264, cK2)]) (eb := none) (ev := none) hw (by kernel_rfl) (by kernel_rfl) (by simp) (by simp) (by intro e he; cases he) (by intro e he; cases he) (fun p hp => ?_) (by omega) (Nat.le_of_ble_eq_true rfl) rfl) (Nat.le_of_ble_eq_true rfl) (slA_low (by kernel_rfl))) (endAJ hL hs hw hub hul hu hcs hr hz)
  · simp only [hone, hm1, hm2, hno, hb, hz, decide_true, Bool.true_and, Bool.and_true, Bool.not_true, Bool.not_false, Bool.and_self]
    rfl
  · simp only [List.mem_cons, List.not_mem_nil, or_false] at hp
    rcases hp with rfl | rfl | rfl | rfl | rfl
    · exact ⟨by kernel_rfl, Nat.le_of_ble_eq_true rfl, fun π hk => bytes_ren hb π⟩
    · exact ⟨by kernel_rfl, Nat.le_of_ble_eq_true rfl, fun π hk => lowE_ren hk rfl⟩
    · exact ⟨by kernel_rfl, Nat.le_of_ble_eq_true rfl, fun π hk => bytes_ren hub π⟩
    · exact ⟨by kernel_rfl, Nat.le_of_ble_eq_true rfl, fun π hk => lowE_ren hk rfl⟩
    · exact ⟨by kernel_rfl, Nat.le_of_ble_eq_true rfl, fun π hk => lowE_ren hk rfl⟩
end

abbrev diskW (w : Value) (off : Bool) : Ent := .row [.slice (some ⟨5, 0, none⟩) 4096 4096, .slice (some ⟨7, 0, none⟩) 4096 4096, w, .int .i64 (-1), .bool off] 0 false
theorem splice_full {cs ls : List Value} (h1 : cs.length = 4096) (h2 : ls.length = 4096) : splice cs 0 (List.take 4096 ls) = ls := by
  have : List.take 4096 ls = ls := List.take_of_length_le (by omega)
  rw [this]
  unfold splice
  rw [List.take_zero, List.nil_append, List.drop_eq_nil_of_le (by omega), List.append_nil]

section
variable (hL : OrcSound Tryd.prog orcL) {ws us cs ls rest : List Value} (hs : sameL ws wordsL = true) (hw : ws.all plain1 = true)
  (hub : us.all isByte = true) (hul : 29 ≤ us.length) (hu : (us.drop 26).take 3 = twoL) (hls : ls = imgRow 0 1 1 97 oneL ++ rest) (hr : rest.all isByte = true) (hz : ls.length = 4096)
  (hcb : cs.all isByte = true) (hcz : cs.length = 4096) (hm1 : noMark ls 4032 = true) (hm2 : noMark ls 4064 = true) (hno : noRecs ls 4032 37 = true)
include hL hs hw hub hul hu hls hr hz hcb hcz hm1 hm2 hno
theorem endAG : EndsA (.seq aG (appL aH (.seq aJ (.seq aK aL)))) (slA [(1, .pointer (some ⟨12, 0, none⟩)), (5, .int .i64 0), (6, .int .i64 0), (7, .int .i64 0), (8, .slice (some ⟨262, 26, none⟩) 3 11), (9, .int .i64 0), (10, .int .i64 0)])
      (tri gW (gV ws) none none [(5, byteRow cs), (7, byteRow ls), (12, diskW (.slice none 0 0) true), (262, byteRow us)] 263) := by
  have hlb : ls.all isByte = true := by rw [hls, List.all_append, imgRow_bytes 0 1 1 97 rfl, hr]; rfl
  have f9 : (List.take 4096 ls).length = 4096 := by rw [List.length_take]; omega
  have h := alG cs ls us gW (gV ws)
  simp only [List.drop_zero, splice_full hcz hz] at h
  refine EndsA.one (c := aG) (z := appL aH (.seq aJ (.seq aK aL))) (fg := kp 13) callN good_aG (Runs.path yxN h ?_) (Moves.kept (m := 263) (Kept.tri (l := [(5, byteRow ls), (7, byteRow ls), (12, diskAt 5 7 4096), (262, byteRow us)]) (eb := none) (ev := none) hw (by kernel_rfl) (by kernel_rfl) (by simp) (by simp) (by intro e he; cases he) (by intro e he; cases he) (fun p hp => ?_) (by omega) (Nat.le_of_ble_eq_true rfl) rfl) (Nat.le_of_ble_eq_true rfl) (slA_low (by kernel_rfl))) (endAH hL hs hw hub hul hu hls hr hz hlb hm1 hm2 hno)
  · simp only [List.drop_zero, hcz, hz, hlb, ones_bytes hlb, List.take_of_length_le (show ls.length ≤ 4096 by omega), f9]
    kernel_rfl
  · simp only [List.mem_cons, List.not_mem_nil, or_false] at hp
    rcases hp with rfl | rfl | rfl | rfl
    · exact ⟨by kernel_rfl, Nat.le_of_ble_eq_true rfl, fun π hk => bytes_ren hlb π⟩
    · exact ⟨by kernel_rfl, Nat.le_of_ble_eq_true rfl, fun π hk => bytes_ren hlb π⟩
    · exact ⟨by kernel_rfl, Nat.le_of_ble_eq_true rfl, fun π hk => lowE_ren hk rfl⟩
    · exact ⟨by kernel_rfl, Nat.le_of_ble_eq_true rfl, fun π hk => bytes_ren hub π⟩
theorem endAF : EndsA (.seq aF (.seq aG (appL aH (.seq aJ (.seq aK aL))))) (slA [(1, .pointer (some ⟨12, 0, none⟩)), (5, .int .i64 0), (6, .int .i64 0), (7, .int .i64 0), (8, .slice (some ⟨262, 26, none⟩) 3 11), (9, .int .i64 0)])
      (tri gW (gV ws) none none [(5, byteRow cs), (7, byteRow ls), (12, diskW (.slice (some ⟨231, 0, none⟩) 1 1) false), (231, .row [.int .i64 37, .slice (some ⟨229, 0, none⟩) 37 37] 2 false), (262, byteRow us)] 263) := by
  have hlb : ls.all isByte = true := by rw [hls, List.all_append, imgRow_bytes 0 1 1 97 rfl, hr]; rfl
  have f9 : (List.take 4096 ls).length = 4096 := by rw [List.length_take]; omega
  have h := alF cs ls us gW (gV ws)
  simp only [List.drop_zero, splice_full hcz hz] at h
  refine EndsA.one (c := aF) (z := .seq aG (appL aH (.seq aJ (.seq aK aL)))) (fg := kp 13) callN good_aF (Runs.path yxN h ?_) (Moves.kept (m := 263) (Kept.tri (l := [(5, byteRow ls), (7, byteRow ls), (12, diskW (.slice none 0 0) true), (262, byteRow us)]) (eb := none) (ev := none) hw (by kernel_rfl) (by kernel_rfl) (by simp) (by simp) (by intro e he; cases he) (by intro e he; cases he) (fun p hp => ?_) (by omega) (Nat.le_of_ble_eq_true rfl) rfl) (Nat.le_of_ble_eq_true rfl) (slA_low (by kernel_rfl))) (endAG hL hs hw hub hul hu hls hr hz hlb hz hm1 hm2 hno)
  · repeat rw [same_of]
    · simp only [List.drop_zero, hcz, hz, hlb, ones_bytes hlb, List.take_of_length_le (show ls.length ≤ 4096 by omega), f9]
      kernel_rfl
    all_goals rfl
  · simp only [List.mem_cons, List.not_mem_nil, or_false] at hp
    rcases hp with rfl | rfl | rfl | rfl
    · exact ⟨by kernel_rfl, Nat.le_of_ble_eq_true rfl, fun π hk => bytes_ren hlb π⟩
    · exact ⟨by kernel_rfl, Nat.le_of_ble_eq_true rfl, fun π hk => bytes_ren hlb π⟩
    · exact ⟨by kernel_rfl, Nat.le_of_ble_eq_true rfl, fun π hk => lowE_ren hk rfl⟩
    · exact ⟨by kernel_rfl, Nat.le_of_ble_eq_true rfl, fun π hk => bytes_ren hub π⟩
end
end Go.Xe
/-
  alive: Get of the second value, the second Put.
-/
set_option linter.unusedVariables false
set_option linter.unusedSimpArgs false
namespace Go.Xe
open Go Go.Proofs

def img2 : List Value := imgRow 37 2 1 97 twoL
def rec2 : Value := .agg #[.int .i64 37, .int .i64 37, .int .u64 2, .string ⟨#[97]⟩, .int .i64 3, .bool false]
theorem img2_bytes : img2.all isByte = true := imgRow_bytes 37 2 1 97 rfl
theorem img2_length : img2.length = 37 := imgRow_length _ _ _ _ _
def row2 : List Value := splice (zerosL [.int .u8 0] 74) 37 img2
theorem row2_bytes : row2.all isByte = true := by kernel_rfl
theorem row2_length : row2.length = 74 := by kernel_rfl
theorem row2_rec : isRec row2 74 37 = true := by kernel_rfl
theorem row2_K : rdK row2 37 = 1 := by kernel_rfl
theorem row2_V : rdV row2 37 = 3 := by kernel_rfl
theorem row2_num : getFrom 0 0 (List.take 8 (List.drop 40 row2)) = 2 := by kernel_rfl
theorem row2_name : bytesOf (List.take 1 (List.drop 62 row2)) = [97] := by kernel_rfl
theorem row2_b2 : byteN row2 39 = 0 := by kernel_rfl
noncomputable abbrev zAF : Code := .seq aF (.seq aG (appL aH (.seq aJ (.seq aK aL))))

section
variable (hL : OrcSound Tryd.prog orcL) {ws cs ls rest : List Value} (hs : sameL ws wordsL = true) (hw : ws.all plain1 = true)
  (hls : ls = imgRow 0 1 1 97 oneL ++ rest) (hr : rest.all isByte = true) (hz : ls.length = 4096)
  (hcb : cs.all isByte = true) (hcz : cs.length = 4096) (hc2 : (cs.drop 37).take 37 = img2) (hm1 : noMark ls 4032 = true) (hm2 : noMark ls 4064 = true) (hno : noRecs ls 4032 37 = true)
include hL hs hw hls hr hz hcb hcz hc2 hm1 hm2 hno
theorem endAE : EndsA (.seq aE zAF) (slA [(1, .pointer (some ⟨12, 0, none⟩)), (3, .pointer (some ⟨14, 0, none⟩)), (5, .int .i64 0), (6, .int .i64 0), (7, .int .i64 0)])
      (tri gW (gV ws) none none [(5, byteRow cs), (7, byteRow ls), (12, diskW (.slice (some ⟨231, 0, none⟩) 1 1) false), (13, .map [⟨.string ⟨#[97]⟩, rec2, 1⟩] 2 false), (14, cacheAt 12 13 4032 (.slice (some ⟨245, 0, none⟩) 2 2) 3 74), (231, .row [.int .i64 37, .slice (some ⟨229, 0, none⟩) 37 37] 2 false)] 246) := by
  have hlb : ls.all isByte = true := by rw [hls, List.all_append, imgRow_bytes 0 1 1 97 rfl, hr]; rfl
  have hT : List.take 37 img2 = img2 := by rw [← img2_length, List.take_length]
  have hzz : List.take 0 (List.drop 0 (zerosL [Value.int IntKind.u8 0] 0)) = [] := rfl
  have hsp : splice (zerosL [Value.int IntKind.u8 0] 74) 37 img2 = row2 := rfl
  have f8 : (zerosL [Value.int .u8 0] 74).all one = true := by kernel_rfl
  have f9 : (zerosL [Value.int .u8 0] 74).length = 74 := by kernel_rfl
  have f10 : same (readV' row2 37 true) (readV' row2 37 true) = true := same_of (by kernel_rfl)
  have o1 : ∀ s, one (.string s) = true := fun _ => rfl
  have o2 : ∀ b, one (.bool b) = true := fun _ => rfl
  have h := alE cs ls gW (gV ws)
  simp only [Int.toNat_natCast, Nat.sub_zero, Nat.zero_add, Nat.mul_one, List.take_zero, hc2, List.nil_append, List.drop_zero, hT, hsp, row2_rec, if_true, Bool.true_and] at h
  refine EndsA.one (c := aE) (z := zAF) (fg := kp 13) callN good_aE (Runs.path yxN h ?_) (Moves.kept (m := 263) (Kept.tri (l := [(5, byteRow cs), (7, byteRow ls), (12, diskW (.slice (some ⟨231, 0, none⟩) 1 1) false), (231, .row [.int .i64 37, .slice (some ⟨229, 0, none⟩) 37 37] 2 false), (262, byteRow img2)]) (eb := none) (ev := none) hw (by kernel_rfl) (by kernel_rfl) (by simp) (by simp) (by intro e he; cases he) (by intro e he; cases he) (fun p hp => ?_) (by omega) (Nat.le_of_ble_eq_true rfl) rfl) (Nat.le_of_ble_eq_true rfl) (slA_low (by kernel_rfl))) (endAF hL hs hw img2_bytes (by rw [img2_length]; omega) (by kernel_rfl) hls hr hz hcb hcz hm1 hm2 hno)
  · simp only [f10]
    simp only [row2_K, row2_V, row2_num, row2_name, row2_b2, f8, f9, o1, o2, row2_bytes, row2_length, img2_bytes, img2_length, ones_bytes img2_bytes, hcz, hc2, recOf, same, sameL, same1, sameM, sameA, beqBytes_self, decide_true, beq_self_eq_true, if_true, Bool.true_and, Bool.and_true, Bool.not_true, Bool.not_false, Bool.and_self, Nat.zero_add, List.length_cons, List.length_nil, List.all_cons, List.all_nil, oneInt,
      Bool.and_eq_true, decide_eq_true_eq, Bool.not_eq_true', decide_eq_false_iff_not, true_and, and_true]
    exact ⟨by omega, ⟨⟨by omega, by omega⟩, by omega⟩, rfl⟩
  · simp only [List.mem_cons, List.not_mem_nil, or_false] at hp
    rcases hp with rfl | rfl | rfl | rfl | rfl
    · exact ⟨by kernel_rfl, Nat.le_of_ble_eq_true rfl, fun π hk => bytes_ren hcb π⟩
    · exact ⟨by kernel_rfl, Nat.le_of_ble_eq_true rfl, fun π hk => bytes_ren hlb π⟩
    · exact ⟨by kernel_rfl, Nat.le_of_ble_eq_true rfl, fun π hk => lowE_ren hk rfl⟩
    · exact ⟨by kernel_rfl, Nat.le_of_ble_eq_true rfl, fun π hk => lowE_ren hk rfl⟩
    · exact ⟨by kernel_rfl, Nat.le_of_ble_eq_true rfl, fun π hk => bytes_ren img2_bytes π⟩
end
noncomputable abbrev zAE : Code := .seq aE zAF
theorem twoIs : List.take 3 (splice (splice (splice (zerosL [Value.int IntKind.u8 0] 3) 0 [Value.int IntKind.u8 116]) 1 [Value.int IntKind.u8 119]) 2 [Value.int IntKind.u8 111]) = twoL := rfl
theorem oneIs : List.take 3 (splice (splice (splice (zerosL [Value.int IntKind.u8 0] 3) 0 [Value.int IntKind.u8 111]) 1 [Value.int IntKind.u8 110]) 2 [Value.int IntKind.u8 101]) = oneL := rfl
section
variable (hL : OrcSound Tryd.prog orcL) {ws cs ls rest : List Value} (hs : sameL ws wordsL = true) (hw : ws.all plain1 = true)
  (hls : ls = imgRow 0 1 1 97 oneL ++ rest) (hr : rest.all isByte = true) (hz : ls.length = 4096)
  (hcb : cs.all isByte = true) (hcz : cs.length = 4096) (hm1 : noMark ls 4032 = true) (hm2 : noMark ls 4064 = true) (hno : noRecs ls 4032 37 = true)
include hL hs hw hls hr hz hcb hcz hm1 hm2 hno
theorem endAD : EndsA (.seq aD zAE) (slA [(1, .pointer (some ⟨12, 0, none⟩)), (3, .pointer (some ⟨14, 0, none⟩)), (5, .int .i64 0), (6, .int .i64 0)])
      (tri gW (gV ws) none none [(5, byteRow cs), (7, byteRow ls), (12, diskAt 5 7 4096), (13, .map [⟨.string ⟨#[97]⟩, .agg (recCells 97 3).toArray, 0⟩] 1 false), (14, cacheAt 12 13 4032 (.slice (some ⟨129, 0, none⟩) 1 1) 2 37), (129, .row (recCells 97 3) 6 false)] 130) := by
  have hlb : ls.all isByte = true := by rw [hls, List.all_append, imgRow_bytes 0 1 1 97 rfl, hr]; rfl
  have hT : List.take 37 (imgRow 37 2 1 97 twoL) = imgRow 37 2 1 97 twoL := List.take_of_length_le (Nat.le_of_eq img2_length)
  have hTl : List.length (imgRow 37 2 1 97 twoL) = 37 := img2_length
  have hTb : (imgRow 37 2 1 97 twoL).all isByte = true := img2_bytes
  have hsl : (splice cs 37 (imgRow 37 2 1 97 twoL)).length = 4096 := by
    unfold splice
    rw [List.length_append, List.length_append, hTl, List.length_take, List.length_drop]; omega
  have hsb : (splice cs 37 (imgRow 37 2 1 97 twoL)).all isByte = true := by
    have h1 := take_bytes hcb 0 37
    rw [List.drop_zero] at h1
    unfold splice
    rw [List.all_append, List.all_append, h1, hTb, Bool.true_and, Bool.true_and]
    rw [List.all_eq_true] at hcb ⊢
    exact fun v hv => hcb v (List.mem_of_mem_drop hv)
  have hs2 : ((splice cs 37 (imgRow 37 2 1 97 twoL)).drop 37).take 37 = img2 := by
    unfold splice
    rw [List.append_assoc, List.drop_left' (by rw [List.length_take]; omega)]
    exact List.take_left' hTl
  have h := alD cs ls gW (gV ws)
  simp only [twoIs, List.drop_zero, hT] at h
  refine EndsA.one (c := aD) (z := zAE) (fg := kp 13) callN good_aD (Runs.path yxN h ?_) (Moves.kept (m := 246) (Kept.tri (l := [(5, byteRow (splice cs 37 (imgRow 37 2 1 97 twoL))), (7, byteRow ls), (12, diskW (.slice (some ⟨231, 0, none⟩) 1 1) false), (13, .map [⟨.string ⟨#[97]⟩, rec2, 1⟩] 2 false), (14, cacheAt 12 13 4032 (.slice (some ⟨245, 0, none⟩) 2 2) 3 74), (231, .row [.int .i64 37, .slice (some ⟨229, 0, none⟩) 37 37] 2 false)]) (eb := none) (ev := none) hw (by kernel_rfl) (by kernel_rfl) (by simp) (by simp) (by intro e he; cases he) (by intro e he; cases he) (fun p hp => ?_) (by omega) (Nat.le_of_ble_eq_true rfl) rfl) (Nat.le_of_ble_eq_true rfl) (slA_low (by kernel_rfl))) (endAE hL hs hw hls hr hz hsb hsl hs2 hm1 hm2 hno)
  · repeat rw [same_of]
    · simp only [twoIs, List.drop_zero, List.take_zero, List.nil_append, hT, hTl, hTb, hcz, hcb, ones_bytes hTb]
      kernel_rfl
    all_goals rfl
  · simp only [List.mem_cons, List.not_mem_nil, or_false] at hp
    rcases hp with rfl | rfl | rfl | rfl | rfl | rfl
    · exact ⟨by kernel_rfl, Nat.le_of_ble_eq_true rfl, fun π hk => bytes_ren hsb π⟩
    · exact ⟨by kernel_rfl, Nat.le_of_ble_eq_true rfl, fun π hk => bytes_ren hlb π⟩
    · exact ⟨by kernel_rfl, Nat.le_of_ble_eq_true rfl, fun π hk => lowE_ren hk rfl⟩
    · exact ⟨by kernel_rfl, Nat.le_of_ble_eq_true rfl, fun π hk => lowE_ren hk rfl⟩
    · exact ⟨by kernel_rfl, Nat.le_of_ble_eq_true rfl, fun π hk => lowE_ren hk rfl⟩
    · exact ⟨by kernel_rfl, Nat.le_of_ble_eq_true rfl, fun π hk => lowE_ren hk rfl⟩
end
end Go.Xe
/-
  alive: from the begin.
-/
set_option linter.unusedVariables false
set_option linter.unusedSimpArgs false
namespace Go.Xe
open Go Go.Proofs

noncomputable abbrev zAD : Code := .seq aD zAE
noncomputable abbrev zAC : Code := appL aC zAD
noncomputable abbrev zAB : Code := appL aB zAC
def zeros : List Value := List.replicate 4096 (.int .u8 0)
theorem zerosIs : zerosL [Value.int .u8 0] 4096 = zeros := zerosL_rep 4096
theorem zeros_bytes : zeros.all isByte = true := rep_bytes _
theorem zeros_length : zeros.length = 4096 := List.length_replicate
theorem zeros_run : zeros = runDisk 4096 0 [] := by
  unfold runDisk splice zeros
  rw [List.take_zero, List.nil_append, List.nil_append]; rfl
theorem zeros_ok : RunOk 4096 [] := runOk_plain (n := 0) (cs := []) rfl (by omega) (by simp) (by omega)
theorem zeros_mark (i : Nat) (h : i + 3 < 4096) : noMark zeros i = true := by rw [zeros_run]; exact zeros_ok.mark 0 i (by simp) h
theorem zeros_rec (i : Nat) (h : i < 4032) : isRec zeros 4032 i = false := by rw [zeros_run]; exact zeros_ok.norec 0 i (by simp) h

section
variable (hL : OrcSound Tryd.prog orcL) {ws cs ls : List Value} (hs : sameL ws wordsL = true) (hw : ws.all plain1 = true)
include hL hs hw
theorem endAC (h1 : cs = zeros) (h2 : ls = zeros) : EndsA zAC (slA [(1, .pointer (some ⟨12, 0, none⟩)), (3, .pointer (some ⟨14, 0, none⟩)), (36, .bool false)])
      (tri gW (gV ws) none none [(5, byteRow cs), (7, byteRow ls), (12, diskAt 5 7 4096), (13, .map [] 0 false), (14, cacheAt 12 13 4032 (.slice none 0 0) 1 0)] 15) := by
  have hcz : cs.length = 4096 := by rw [h1, zeros_length]
  have hlz : ls.length = 4096 := by rw [h2, zeros_length]
  have hcb : cs.all isByte = true := by rw [h1, zeros_bytes]
  have hvs : oneL.all isByte = true := rfl
  have hTl : (imgRow 0 1 1 97 oneL).length = 37 := imgRow_length _ _ _ _ _
  have hTb : (imgRow 0 1 1 97 oneL).all isByte = true := imgRow_bytes 0 1 1 97 rfl
  have hT : List.take 37 (imgRow 0 1 1 97 oneL) = imgRow 0 1 1 97 oneL := List.take_of_length_le (Nat.le_of_eq hTl)
  have hpb := putDisk_bytes (cs := cs) (vs := oneL) 97 hcb hvs
  have hpl : (putDisk cs 97 oneL).length = 4096 := by rw [putDisk_length 97 (by rw [hcz]; decide), hcz]
  have hp4 : List.take 4096 (putDisk cs 97 oneL) = putDisk cs 97 oneL := List.take_of_length_le (by omega)
  have hsl : splice ls 0 (putDisk cs 97 oneL) = putDisk cs 97 oneL := by have := splice_full (cs := ls) (ls := putDisk cs 97 oneL) hlz hpl; rwa [hp4] at this
  have dr : ∀ i, 37 ≤ i → (putDisk cs 97 oneL).drop i = cs.drop i := fun i hi => putDisk_drop cs 97 oneL hi
  have h := alC cs ls gW (gV ws)
  simp only [oneIs, List.drop_zero, hT, splice_put, hp4, hsl] at h
  refine EndsA.more (l := aC) (z := zAD) (fg := kp 13) callN (List.cons_ne_nil _ _) good_aC (Runs.path yxN h ?_) (Moves.kept (m := 130) (Kept.tri (l := [(5, byteRow (putDisk cs 97 oneL)), (7, byteRow (putDisk cs 97 oneL)), (12, diskAt 5 7 4096), (13, .map [⟨.string ⟨#[97]⟩, .agg (recCells 97 3).toArray, 0⟩] 1 false), (14, cacheAt 12 13 4032 (.slice (some ⟨129, 0, none⟩) 1 1) 2 37), (129, .row (recCells 97 3) 6 false)]) (eb := none) (ev := none) hw (by kernel_rfl) (by kernel_rfl) (by simp) (by simp) (by intro e he; cases he) (by intro e he; cases he) (fun p hp => ?_) (by omega) (Nat.le_of_ble_eq_true rfl) rfl) (Nat.le_of_ble_eq_true rfl) (slA_low (by kernel_rfl)))
    (endAD hL (rest := cs.drop 37) hs hw rfl ?_ hpl hpb hpl ?_ ?_ ?_)
  · repeat rw [same_of]
    · simp only [oneIs, List.drop_zero, List.take_zero, List.nil_append, hT, hTl, hTb, hcz, hlz, hcb, hpb, hpl, hp4, splice_put, ones_bytes hTb, ones_bytes hpb]
      kernel_rfl
    all_goals rfl
  · simp only [List.mem_cons, List.not_mem_nil, or_false] at hp
    rcases hp with rfl | rfl | rfl | rfl | rfl | rfl
    · exact ⟨by kernel_rfl, Nat.le_of_ble_eq_true rfl, fun π hk => bytes_ren hpb π⟩
    · exact ⟨by kernel_rfl, Nat.le_of_ble_eq_true rfl, fun π hk => bytes_ren hpb π⟩
    · exact ⟨by kernel_rfl, Nat.le_of_ble_eq_true rfl, fun π hk => lowE_ren hk rfl⟩
    · exact ⟨by kernel_rfl, Nat.le_of_ble_eq_true rfl, fun π hk => lowE_ren hk rfl⟩
    · exact ⟨by kernel_rfl, Nat.le_of_ble_eq_true rfl, fun π hk => lowE_ren hk rfl⟩
    · exact ⟨by kernel_rfl, Nat.le_of_ble_eq_true rfl, fun π hk => lowE_ren hk rfl⟩
  · rw [List.all_eq_true] at hcb ⊢
    exact fun v hv => hcb v (List.mem_of_mem_drop hv)
  · rw [noMark_congr (dr _ (by omega)), h1]; exact zeros_mark _ (by omega)
  · rw [noMark_congr (dr _ (by omega)), h1]; exact zeros_mark _ (by omega)
  · rw [noRecs_is]
    intro i hi hi2
    rw [isRec_congr (dr _ hi), h1]; exact zeros_rec i hi2
theorem endAB (h1 : cs = zeros) (h2 : ls = zeros) : EndsA zAB (slA [(1, .pointer (some ⟨12, 0, none⟩)), (2, .int .i64 0)])
      (tri gW (gV ws) none none [(5, byteRow cs), (7, byteRow ls), (12, diskAt 5 7 4096)] 13) := by
  have hcz : cs.length = 4096 := by rw [h1, zeros_length]
  have hcb : cs.all isByte = true := by rw [h1, zeros_bytes]
  have hlb : ls.all isByte = true := by rw [h2, zeros_bytes]
  have hn0 : noRecs cs 4032 0 = true := noRecs_is.2 fun i _ hi => by rw [h1]; exact zeros_rec i hi
  have hm1 : noMark cs 4032 = true := by rw [h1]; exact zeros_mark _ (by omega)
  have hm2 : noMark cs 4064 = true := by rw [h1]; exact zeros_mark _ (by omega)
  have h := alB cs ls gW (gV ws)
  refine EndsA.more (l := aB) (z := zAC) (fg := kp 13) callN (List.cons_ne_nil _ _) good_aB (Runs.path yxN h ?_) (Moves.kept (m := 15) (Kept.tri (l := [(5, byteRow cs), (7, byteRow ls), (12, diskAt 5 7 4096), (13, .map [] 0 false), (14, cacheAt 12 13 4032 (.slice none 0 0) 1 0)]) (eb := none) (ev := none) hw (by kernel_rfl) (by kernel_rfl) (by simp) (by simp) (by intro e he; cases he) (by intro e he; cases he) (fun p hp => ?_) (by omega) (Nat.le_of_ble_eq_true rfl) rfl) (Nat.le_of_ble_eq_true rfl) (slA_low (by kernel_rfl))) (endAC hL hs hw h1 h2)
  · simp only [hcb, hm1, hm2, hn0, hcz]
    kernel_rfl
  · simp only [List.mem_cons, List.not_mem_nil, or_false] at hp
    rcases hp with rfl | rfl | rfl | rfl | rfl
    · exact ⟨by kernel_rfl, Nat.le_of_ble_eq_true rfl, fun π hk => bytes_ren hcb π⟩
    · exact ⟨by kernel_rfl, Nat.le_of_ble_eq_true rfl, fun π hk => bytes_ren hlb π⟩
    · exact ⟨by kernel_rfl, Nat.le_of_ble_eq_true rfl, fun π hk => lowE_ren hk rfl⟩
    · exact ⟨by kernel_rfl, Nat.le_of_ble_eq_true rfl, fun π hk => lowE_ren hk rfl⟩
    · exact ⟨by kernel_rfl, Nat.le_of_ble_eq_true rfl, fun π hk => lowE_ren hk rfl⟩
/-- alive gives true. -/
theorem alive_true : EndsA (codeOf Tryd.prog 13) (startX Tryd.f13 []) (tri gW (gV ws) none none [] 4) := by
  have h := alA gW (gV ws)
  rw [zerosIs] at h
  rw [code13]
  refine EndsA.more (l := aA) (z := zAB) (fg := kp 13) callN (List.cons_ne_nil _ _) good_aA (Runs.path yxN h ?_) (Moves.kept (m := 13) (Kept.tri (l := [(5, byteRow zeros), (7, byteRow zeros), (12, diskAt 5 7 4096)]) (eb := none) (ev := none) hw (by kernel_rfl) (by kernel_rfl) (by simp) (by simp) (by intro e he; cases he) (by intro e he; cases he) (fun p hp => ?_) (by omega) (Nat.le_of_ble_eq_true rfl) rfl) (Nat.le_of_ble_eq_true rfl) (slA_low (by kernel_rfl))) (endAB hL hs hw rfl rfl)
  · repeat rw [same_of]
    · kernel_rfl
    all_goals rfl
  · simp only [List.mem_cons, List.not_mem_nil, or_false] at hp
    rcases hp with rfl | rfl | rfl
    · exact ⟨by kernel_rfl, Nat.le_of_ble_eq_true rfl, fun π hk => bytes_ren zeros_bytes π⟩
    · exact ⟨by kernel_rfl, Nat.le_of_ble_eq_true rfl, fun π hk => bytes_ren zeros_bytes π⟩
    · exact ⟨by kernel_rfl, Nat.le_of_ble_eq_true rfl, fun π hk => lowE_ren hk rfl⟩
end
end Go.Xe
/-
  keys (31): twelve rounds with no unknowns: states.
-/
set_option linter.unusedVariables false
namespace Go.Xe
open Go Go.Proofs

def orcKy : Orc := fun f => if f = 37 then some sumF else none
theorem okOrcKy : OrcSound Tryd.prog orcKy := fun f F h => by
  unfold orcKy at h
  split at h
  · cases h; rename_i hf; subst hf; exact sumF_sound
  · cases h
noncomputable abbrev xky : XCall := xgoO Tryd.prog okN orcKy kp 100
theorem callKy : CallSound Tryd.prog xky := xgoO_sound mixed okN_ok okN_good okOrcKy kp 100
noncomputable abbrev body31c : Code := sub (codeOf Tryd.prog 31) [1, 1, 0, 1, 0, 0]
def slK (i : Int) : XAct := [none, some (.map (some 4)), none, none, none, none, none, some (.int .i64 i)] ++ List.replicate 29 none
def entK (n : Nat) (k : List UInt8) : MapEntry := ⟨.string ⟨k.toArray⟩, .bool true, n⟩
def stK (es : List MapEntry) (n : Nat) : St := tri gW (gV wordsL) none none [(4, .map es n false)] 5
/-- what is looked at behind a round -/
def lookK (r : XE × XAct × St) : XE × XAct × Option Ent × Option Ent × Option Ent × Nat × Bool := (r.1, r.2.1, r.2.2.heap.get 0, r.2.2.heap.get 1, r.2.2.heap.get 4, r.2.2.glob, Nat.ble 5 r.2.2.next)
noncomputable def roundK (i : Int) (es : List MapEntry) (n : Nat) : Option (XE × XAct × St) := xcode Tryd.prog okN xky (kp 31) 100 body31c (slK i) (stK es n)
end Go.Xe
