/- A part of the proof. -/
import Derived.Test.YtkhjbbigangbdaaGreatDoorM10
import Derived.Test.YtkhjbbigangbdaaGreatDoorM07
set_option linter.all false
namespace Go.Xe
open Go Go.Proofs
theorem openPre (n : Nat) (cs : List Value) : ycode Tryz.prog okN yc3 (kp 25) 100 (seqs pre8) (startX Tryz.f25 [.pointer (ad 2)]) (oDisk n cs) (bits 52 17564801693823) = (let x2 := IntKind.wrap .i64 ((n : Int) - 64); let x3 := IntKind.wrap .i64 (IntKind.wrap .i64 ((n : Int) - 64) + 32); let x4 := !decide ((n : Int) < 0); let x6 := Value.int .i64 x2; let x7 := decide (0 ≤ IntKind.wrap .i64 ((n : Int) - 64)); let x8 := Value.int .i64 x3; let x9 := IntKind.wrap .i64 (0 + (n : Int)); let x0 := Int.toNat x9 - 0; let x1 := List.take 0 (List.drop 0 (zerosL [Value.int .u8 0] 0)) ++ List.take (x0 * 1) (List.drop 0 cs); let x5 := Value.slice (ad 6) (0 + x0) (0 + x0); let x10 := decide (0 + x0 ≤ List.length x1); let x11 := decide (0 + x0 < 1099511627776); some (!!decide (0 < (n : Int)) && true && true && true && true && true && true && true && (!!decide (0 < (n : Int)) && true && true && true && true && true && true && true && (x4 && true && (x4 && true && (x4 && true && true && (x4 && true && (x4 && true && (x4 && true && (x4 && true && (x4 && true && (x4 && true && (x4 && true && (x4 && true && (x4 && true && (x4 && true && true && true)))))))))))) && true && (!decide (IntKind.wrap .i64 ((n : Int) - 0) < (n : Int)) && true) && (decide (0 ≤ IntKind.wrap .i64 (0 + (n : Int))) && (decide (IntKind.wrap .i64 (0 + (n : Int)) ≤ (n : Int)) && true) && (decide (0 ≤ (↑(Int.toNat x9) : Int)) && true && true) && true && true && true && (!decide (Int.toNat x9 - 0 = 0) && (decide (0 + x0 * 1 ≤ List.length cs) && true) && (!decide (0 + x0 ≤ 0) && (decide ((0 + x0) * 1 ≤ 140737488355328) && (decide (0 + x0 ≤ 9223372036854775807) && (List.all x1 one && true && true)))) && true && true && true && true && true && true && true) && true && true)) && true && true && true && (x11 && (decide (0 + x0 ≤ 0 + x0) && (x7 && (decide (Int.toNat x2 + 20 ≤ 0 + x0) && (x10 && (List.all x1 isByte && (noMark x1 (Int.toNat x2) && true)))))) && true && true && (x11 && (decide (0 + x0 ≤ 0 + x0) && (decide (0 ≤ IntKind.wrap .i64 (IntKind.wrap .i64 ((n : Int) - 64) + 32)) && (decide (Int.toNat x3 + 20 ≤ 0 + x0) && (x10 && (List.all x1 isByte && (noMark x1 (Int.toNat x3) && true)))))) && true && true && true) && (same x5 x5 && true && (same x6 x6 && true && (same x5 x5 && (same x5 x5 && true) && (same x6 x6 && (same x6 x6 && true) && (same x8 x8 && (same x8 x8 && true) && true)))) && true) && true && (x7 && (decide (IntKind.wrap .i64 ((n : Int) - 64) ≤ (↑(0 + x0) : Int)) && true) && true && true && true && true && true && true && true))), ((XE.normal, (oHead0 (Int.toNat x2 - 0) (0 + x0 - 0)), ⟨(.node (nd (ln (some (Ent.map [] 0 false))) (l0)) (some (Ent.row cs 1 false)) (.node (.node .leaf (some (Ent.row [Value.pointer (ad 2), Value.int .i64 x2, Value.int .u64 0, Value.int .i64 0, Value.slice none 0 0, Value.map (some 3), Value.int .u64 1, Value.int .i64 0, Value.int .i64 0, Value.bool false] 0 false)) (ch 4 6 (lr [Value.int .u64 0] 0 false))) (some (Ent.row [Value.slice (ad 0) n n, Value.slice (ad 1) n n, Value.slice none 0 0, Value.int .i64 (-1), Value.bool false] 0 false)) (lr x1 1 false))), 181, 0⟩), []))) := by kernel_rfl
theorem openHead (n l cp : Nat) (cs ds : List Value) (sz : Int) : ycode Tryz.prog okN yc3 (kp 25) 100 head8 (oHead0 l cp) (oS n cs ds sz) [] = (some (true, ((XE.normal, (oHead l cp 0 none), (oS n cs ds sz)), []))) := by kernel_rfl
theorem openRound (n l cp k : Nat) (cs ds : List Value) (sz : Int) : ycode Tryz.prog okN yc3 (kp 25) 100 loop8 (oHead l cp (k : Int) none) (oS n cs ds sz) [true, true] = (let x0 := [Value.int .i64 (if isRec ds l k = true then (k : Int) else 0), Value.int .i64 (if isRec ds l k = true then (↑(33 + rdK ds k + rdV ds k) : Int) else 0), Value.int .u64 (if isRec ds l k = true then getFrom 0 0 (List.take 8 (List.drop (k + 3) ds)) else 0), Value.string (if isRec ds l k = true then { data := List.toArray (bytesOf (List.take (rdK ds k) (List.drop (k + 25) ds))) : ByteArray } else { data := #[] : ByteArray }), Value.int .i64 (if isRec ds l k = true then (↑(rdV ds k) : Int) else 0), Value.bool (isRec ds l k && decide (byteN ds (k + 2) = 1))]; some (decide ((k : Int) < (l : Int)) && true && (decide (l < 1099511627776) && (decide (l ≤ cp) && (decide (0 ≤ (k : Int)) && (decide (k ≤ l) && (decide (l ≤ List.length ds) && (List.all ds isByte && true))))) && true && (decide (0 + List.length x0 ≤ 6) && (List.all x0 one && true) && true && true && true) && true && (!isRec ds l k && true && true) && true), ((XE.normal, (oHead l cp (IntKind.wrap .i64 ((k : Int) + 1)) none), ⟨(.node (le (.node (ch 4 13 (lr x0 0 false)) (some (Ent.map [] 0 false)) .leaf)) (some (Ent.row cs 1 false)) (.node (.node .leaf (some (Ent.row [Value.pointer (ad 2), Value.int .i64 sz, Value.int .u64 0, Value.int .i64 0, Value.slice none 0 0, Value.map (some 3), Value.int .u64 1, Value.int .i64 0, Value.int .i64 0, Value.bool false] 0 false)) (ch 4 6 (lr [Value.int .u64 0] 0 false))) (some (Ent.row [Value.slice (ad 0) n n, Value.slice (ad 1) n n, Value.slice none 0 0, Value.int .i64 (-1), Value.bool false] 0 false)) (lr ds 1 false))), 232, 0⟩), []))) := by kernel_rfl
theorem openLast (n l cp k : Nat) (cs ds : List Value) (sz : Int) : ycode Tryz.prog okN yc3 (kp 25) 100 loop8 (oHead l cp (k : Int) none) (oS n cs ds sz) [false] = (let x0 := decide ((k : Int) < (l : Int)); some (!x0 && true && true, ((XE.exit 0, (oHead l cp (k : Int) (some (Value.bool (x0)))), (oS n cs ds sz)), []))) := by kernel_rfl
theorem openFound (n l cp k : Nat) (cs ds : List Value) (sz : Int) : ycode Tryz.prog okN yc3 (kp 25) 100 loop8 (oHead l cp (k : Int) none) (oS n cs ds sz) (bits 5 17) = (let x0 := [Value.int .i64 (if isRec ds l k = true then (k : Int) else 0), Value.int .i64 (if isRec ds l k = true then (↑(33 + rdK ds k + rdV ds k) : Int) else 0), Value.int .u64 (if isRec ds l k = true then getFrom 0 0 (List.take 8 (List.drop (k + 3) ds)) else 0), Value.string (if isRec ds l k = true then { data := List.toArray (bytesOf (List.take (rdK ds k) (List.drop (k + 25) ds))) : ByteArray } else { data := #[] : ByteArray }), Value.int .i64 (if isRec ds l k = true then (↑(rdV ds k) : Int) else 0), Value.bool (isRec ds l k && decide (byteN ds (k + 2) = 1))]; let x1 := IntKind.wrap .i64 ((k : Int) + if isRec ds l k = true then (↑(33 + rdK ds k + rdV ds k) : Int) else 0); let x2 := Value.int .i64 (if isRec ds l k = true then (↑(33 + rdK ds k + rdV ds k) : Int) else 0); let x3 := Value.int .u64 (if isRec ds l k = true then getFrom 0 0 (List.take 8 (List.drop (k + 11) ds)) else 0); let x4 := IntKind.wrap .u64 ((if isRec ds l k = true then getFrom 0 0 (List.take 8 (List.drop (k + 3) ds)) else 0) + 1); let x5 := Value.agg (List.toArray (List.take 6 (List.drop 0 (splice [Value.int .i64 0, Value.int .i64 0, Value.int .u64 0, Value.string { data := #[] : ByteArray }, Value.int .i64 0, Value.bool false] 0 x0)))); let x6 := Value.int .u64 (if isRec ds l k = true then getFrom 0 0 (List.take 8 (List.drop (k + 3) ds)) else 0); let x7 := Value.int .i64 x1; let x8 := Value.int .i64 k; let x9 := some (Ent.row x0 6 false); some (decide ((k : Int) < (l : Int)) && true && (decide (l < 1099511627776) && (decide (l ≤ cp) && (decide (0 ≤ (k : Int)) && (decide (k ≤ l) && (decide (l ≤ List.length ds) && (List.all ds isByte && true))))) && true && (decide (0 + List.length x0 ≤ 6) && (List.all x0 one && true) && true && true && true) && true && (!!isRec ds l k && true && (same x5 x5 && true && true && true && true && (decide (1 ≤ if isRec ds l k = true then getFrom 0 0 (List.take 8 (List.drop (k + 3) ds)) else 0) && (same x6 x6 && true && (same (Value.int .u64 x4) (Value.int .u64 x4) && true && (same x3 x3 && (same x3 x3 && true) && (same x8 x8 && (same x8 x8 && (same x8 x8 && true)) && (same x2 x2 && (same x2 x2 && (same x2 x2 && true)) && (same x7 x7 && (same x7 x7 && (same x7 x7 && true)) && true))))) && true && true) && true))) && true), ((XE.normal, (oHead l cp x1 none), ⟨(.node (le (.node (ch 4 13 (lr x0 0 false)) (some (Ent.map [] 0 false)) (ch 4 14 (ln x9)))) (some (Ent.row cs 1 false)) (.node (.node .leaf (some (Ent.row [Value.pointer (ad 2), Value.int .i64 sz, Value.int .u64 0, Value.int .i64 0, Value.slice (ad 244) 1 1, Value.map (some 3), Value.int .u64 x4, Value.int .i64 x1, Value.int .i64 0, Value.bool false] 0 false)) (ch 3 6 (nd (lr [Value.int .u64 (if isRec ds l k = true then getFrom 0 0 (List.take 8 (List.drop (k + 11) ds)) else 0)] 0 false) (ln x9)))) (some (Ent.row [Value.slice (ad 0) n n, Value.slice (ad 1) n n, Value.slice none 0 0, Value.int .i64 (-1), Value.bool false] 0 false)) (lr ds 1 false))), 269, 0⟩), []))) := by kernel_rfl
theorem openRound1 (n l cp k v : Nat) (c : UInt8) (cs ds : List Value) (sz : Int) : ycode Tryz.prog okN yc3 (kp 25) 100 loop8 (oHead l cp (k : Int) none) (oS1 n v c cs ds sz) [true, true] = (let x0 := [Value.int .i64 (if isRec ds l k = true then (k : Int) else 0), Value.int .i64 (if isRec ds l k = true then (↑(33 + rdK ds k + rdV ds k) : Int) else 0), Value.int .u64 (if isRec ds l k = true then getFrom 0 0 (List.take 8 (List.drop (k + 3) ds)) else 0), Value.string (if isRec ds l k = true then { data := List.toArray (bytesOf (List.take (rdK ds k) (List.drop (k + 25) ds))) : ByteArray } else { data := #[] : ByteArray }), Value.int .i64 (if isRec ds l k = true then (↑(rdV ds k) : Int) else 0), Value.bool (isRec ds l k && decide (byteN ds (k + 2) = 1))]; some (decide ((k : Int) < (l : Int)) && true && (decide (l < 1099511627776) && (decide (l ≤ cp) && (decide (0 ≤ (k : Int)) && (decide (k ≤ l) && (decide (l ≤ List.length ds) && (List.all ds isByte && true))))) && true && (decide (0 + List.length x0 ≤ 6) && (List.all x0 one && true) && true && true && true) && true && (!isRec ds l k && true && true) && true), ((XE.normal, (oHead l cp (IntKind.wrap .i64 ((k : Int) + 1)) none), ⟨(.node (le (.node (ch 5 5 (lr x0 0 false)) (some (Ent.map [] 0 false)) .leaf)) (some (Ent.row cs 1 false)) (.node (.node .leaf (some (Ent.row [Value.pointer (ad 2), Value.int .i64 sz, Value.int .u64 0, Value.int .i64 0, Value.slice (ad 244) 1 1, Value.map (some 3), Value.int .u64 2, Value.int .i64 (↑(34 + v) : Int), Value.int .i64 0, Value.bool false] 0 false)) (ch 3 6 (nd (lr [Value.int .u64 1] 0 false) (lr [Value.int .i64 0, Value.int .i64 (↑(34 + v) : Int), Value.int .u64 1, Value.string { data := #[c] : ByteArray }, Value.int .i64 v, Value.bool false] 6 false)))) (some (Ent.row [Value.slice (ad 0) n n, Value.slice (ad 1) n n, Value.slice none 0 0, Value.int .i64 (-1), Value.bool false] 0 false)) (lr ds 1 false))), 296, 0⟩), []))) := by kernel_rfl
theorem openLast1 (n l cp k v : Nat) (c : UInt8) (cs ds : List Value) (sz : Int) : ycode Tryz.prog okN yc3 (kp 25) 100 loop8 (oHead l cp (k : Int) none) (oS1 n v c cs ds sz) [false] = (let x0 := decide ((k : Int) < (l : Int)); some (!x0 && true && true, ((XE.exit 0, (oHead l cp (k : Int) (some (Value.bool (x0)))), (oS1 n v c cs ds sz)), []))) := by kernel_rfl
theorem openPost (n l cp k : Nat) (cs ds : List Value) (sz : Int) (j : Option Value) : ycode Tryz.prog okN yc3 (kp 25) 100 post8 (oHead l cp (k : Int) j) (oS n cs ds sz) (bits 10 144) = (let x0 := [Value.pointer (ad 2), Value.int .i64 sz, Value.int .u64 0, Value.int .i64 0, Value.slice none 0 0, Value.map (some 3), Value.int .u64 1, Value.int .i64 0, Value.int .i64 0, Value.bool false]; let x1 := List.set x0 4 (List.getD x0 4 undefX); let x2 := decide (6 < List.length x1); let x3 := List.set x1 6 (Value.int .u64 1); let x4 := decide (2 < List.length x1); some (one (List.getD x0 4 undefX) && true && true && true && true && true && (x2 && true && true && true && true && (x4 && true && true && true && true && (x2 && true && true && true && true && true)) && (x2 && true && true && true && true && (x4 && true && true && true && true && true) && true) && true && (decide (4 < List.length x3) && true && true && true && true && true && true && true && (decide (5 < List.length x3) && true && true && true && true && true && true && true))), ((XE.ret, oEnd, ⟨(.node (nd (ln (some (Ent.map [] 0 false))) (ch 5 18 (ln (some (Ent.iter 3 0 [] 0))))) (some (Ent.row cs 1 false)) (.node (.node .leaf (some (Ent.row x0 0 false)) (ch 4 6 (lr [Value.int .u64 0] 0 false))) (some (Ent.row [Value.slice (ad 0) n n, Value.slice (ad 1) n n, Value.slice none 0 0, Value.int .i64 (-1), Value.bool false] 0 false)) (lr ds 1 false))), 202, 0⟩), []))) := by kernel_rfl
theorem openPost1 (n l cp k v : Nat) (c : UInt8) (cs ds : List Value) (sz : Int) (j : Option Value) : ycode Tryz.prog okN yc3 (kp 25) 100 post8 (oHead l cp (k : Int) j) (oS1 n v c cs ds sz) (bits 15 5712) = (let x0 := [Value.pointer (ad 2), Value.int .i64 sz, Value.int .u64 0, Value.int .i64 0, Value.slice (ad 244) 1 1, Value.map (some 3), Value.int .u64 2, Value.int .i64 (↑(34 + v) : Int), Value.int .i64 0, Value.bool false]; let x2 := [Value.int .i64 0, Value.int .i64 (↑(34 + v) : Int), Value.int .u64 1, Value.string { data := #[c] : ByteArray }, Value.int .i64 v, Value.bool false]; let x3 := List.set x0 4 (List.getD x0 4 undefX); let x4 := List.take 6 (List.drop 0 (recCells c v)); let x1 := splice [Value.int .i64 0, Value.int .i64 0, Value.int .u64 0, Value.string { data := #[] : ByteArray }, Value.int .i64 0, Value.bool false] 0 x4; let x5 := decide (5 < List.length (List.set x3 6 (Value.int .u64 2))); let x6 := some (Ent.row x2 0 false); let x7 := Value.agg (List.toArray (List.take 6 (List.drop 0 x1))); let x8 := decide (6 < List.length x3); let x9 := Value.string (strOf (List.getD x1 3 undefX)); let x10 := decide (6 ≤ List.length (recCells c v)); some (x10 && true && true && true && true && (List.all x4 one && true && true && true && true && true && true && (decide (2 < List.length x4) && true && true && true && true && (decide (0 < 1) && true && true && true && true && true) && true && true) && true && true) && true && (!decide (1 < 1) && true) && true && true && true && true && true && true && true && true && true && true && (one (List.getD x0 4 undefX) && true && true && true && true) && true && (x8 && true && true && true && true && (decide (2 < List.length x3) && true && true && true && true && (x8 && true && true && true && true && true)) && (x8 && true && true && true && true && (decide (2 < List.length x3) && true && true && true && true && true) && true) && true && (decide (4 < List.length (List.set x3 6 (Value.int .u64 2))) && true && true && true && true && true && true && (x10 && true && true && true && true && (decide (0 + List.length x4 ≤ 6) && (List.all x4 one && true) && true && true && true) && true && (x5 && true && true && true && true && true && (x5 && true && true && true && true && (same x9 x9 && true && (same x7 x7 && true && true)) && true) && true) && true && true && true && true) && (x5 && true && true && true && true && true && true && true))), ((XE.ret, oEnd, ⟨(.node (nd (.node .leaf (some (Ent.map [{ key := Value.string (strOf (List.getD x1 3 undefX)), val := Value.agg { toList := x2 : Array Value }, born := 0 : MapEntry }] 1 false)) (ch 5 2 (ln (some (Ent.iter 3 1 [0] 1))))) (ch 6 5 (ln x6))) (some (Ent.row cs 1 false)) (.node (.node .leaf (some (Ent.row x0 0 false)) (nd (ri (nd (ch 2 0 (ln x6)) (nd (lr [Value.int .u64 1] 0 false) (lr x2 6 false)))) (ch 3 7 (ln x6)))) (some (Ent.row [Value.slice (ad 0) n n, Value.slice (ad 1) n n, Value.slice none 0 0, Value.int .i64 (-1), Value.bool false] 0 false)) (.node (ch 5 1 (ln x6)) (some (Ent.row ds 1 false)) .leaf))), 278, 0⟩), []))) := by kernel_rfl
theorem okOrc3 : OrcSound Tryz.prog orc3 := fun f F h => by
 unfold orc3 at h
 split at h
 ·cases h; rename_i hf; subst hf; exact getF_sound
 ·split at h
  ·cases h; rename_i hf; subst hf; exact sumF_sound
  ·split at h
   ·cases h; rename_i hf; subst hf; exact putF_sound
   ·split at h
    ·cases h; rename_i hf; subst hf; exact readFn_sound
    ·split at h
     ·cases h; rename_i hf; subst hf; exact markedFn_sound
     ·split at h
      ·cases h; rename_i hf; subst hf; exact imageFn_sound
      ·cases h
noncomputable abbrev xc3 : XCall := xgoO Tryz.prog okN orc3 kp 100
theorem yx3 : YX yc3 xc3 := ygo_is orc3 kp 100
theorem call3 : CallSound Tryz.prog xc3 := xgoO_sound mixed okN_ok okN_good okOrc3 kp 100
theorem body8 : Tryz.f25.body = some (codeOf Tryz.prog 25) := by kernel_rfl
theorem code8 : codeOf Tryz.prog 25 = appL pre8 (.seq (.seq head8 (.block 0 (.loop loop8))) post8) := by kernel_rfl
theorem good8 : goodCode (codeOf Tryz.prog 25) = true := okN_good 25 _ _ rfl Tryz.func25 body8
theorem bytes_ren {cs : List Value} {esz : Nat} {ro : Bool} (h : cs.all isByte = true) (π : Nat → Nat) : RenE π (.row cs esz ro) (.row cs esz ro) := .plain (ints_plain (bytes_ints h))
section
variable {n l cp v : Nat} {c : UInt8} {cs ds : List Value} {sz : Int}
theorem oS_kept {S : St} (hcs : cs.all isByte = true) (hds : ds.all isByte = true) (h : S.heap.get 0 = some (.row cs 1 false) ∧ S.heap.get 2 = some (diskRow n) ∧ S.heap.get 3 = some (.map [] 0 false) ∧ S.heap.get 4 = some (cacheRow sz (.slice none 0 0) 1 0) ∧ S.heap.get 6 = some (.row ds 1 false) ∧ S.heap.get 180 = some (.row [.int .u64 0] 0 false))
 (hm : 181 ≤ S.next) (hg : S.glob = 0) : Kept 181 (oS n cs ds sz) S := by
 refine Kept.ofL (fun p hp => ?_) hm hg
 obtain ⟨h0, h2, h3, h4, h6, h7⟩ := h
 simp only [List.mem_cons, List.not_mem_nil, or_false] at hp
 rcases hp with rfl | rfl | rfl | rfl | rfl | rfl
 ·exact ⟨h0, Nat.le_of_ble_eq_true rfl, fun π hk => bytes_ren hcs π⟩
 ·exact ⟨h2, Nat.le_of_ble_eq_true rfl, fun π hk => lowE_ren hk rfl⟩
 ·exact ⟨h3, Nat.le_of_ble_eq_true rfl, fun π hk => lowE_ren hk rfl⟩
 ·exact ⟨h4, Nat.le_of_ble_eq_true rfl, fun π hk => lowE_ren hk rfl⟩
 ·exact ⟨h6, Nat.le_of_ble_eq_true rfl, fun π hk => bytes_ren hds π⟩
 ·exact ⟨h7, Nat.le_of_ble_eq_true rfl, fun π hk => lowE_ren hk rfl⟩
theorem oS1_kept {S : St} (hcs : cs.all isByte = true) (hds : ds.all isByte = true) (h : S.heap.get 0 = some (.row cs 1 false) ∧ S.heap.get 2 = some (diskRow n) ∧ S.heap.get 3 = some (.map [] 0 false) ∧ S.heap.get 4 = some (cacheRow sz (.slice (some ⟨244, 0, none⟩) 1 1) 2 ((34 + v : Nat) : Int)) ∧ S.heap.get 6 = some (.row ds 1 false) ∧ S.heap.get 180 = some (.row [.int .u64 1] 0 false) ∧ S.heap.get 244 = some (.row (recCells c v) 6 false))
 (hm : 245 ≤ S.next) (hg : S.glob = 0) : Kept 245 (oS1 n v c cs ds sz) S := by
 refine Kept.ofL (fun p hp => ?_) hm hg
 obtain ⟨h0, h2, h3, h4, h6, h7, h8⟩ := h
 simp only [List.mem_cons, List.not_mem_nil, or_false] at hp
 rcases hp with rfl | rfl | rfl | rfl | rfl | rfl | rfl
 ·exact ⟨h0, Nat.le_of_ble_eq_true rfl, fun π hk => bytes_ren hcs π⟩
 ·exact ⟨h2, Nat.le_of_ble_eq_true rfl, fun π hk => lowE_ren hk rfl⟩
 ·exact ⟨h3, Nat.le_of_ble_eq_true rfl, fun π hk => lowE_ren hk rfl⟩
 ·exact ⟨h4, Nat.le_of_ble_eq_true rfl, fun π hk => lowE_ren hk rfl⟩
 ·exact ⟨h6, Nat.le_of_ble_eq_true rfl, fun π hk => bytes_ren hds π⟩
 ·exact ⟨h7, Nat.le_of_ble_eq_true rfl, fun π hk => lowE_ren hk rfl⟩
 ·exact ⟨h8, Nat.le_of_ble_eq_true rfl, fun π hk => lowE_ren hk rfl⟩
end
theorem good_parts : goodCode (seqs pre8) = true ∧ goodCode head8 = true ∧ goodCode loop8 = true ∧ goodCode post8 = true := by
 have h := good8
 rw [code8] at h
 simp only [pre8, appL, goodCode, Bool.and_eq_true] at h
 simp only [pre8, seqs, goodCode, Bool.and_eq_true]
 obtain ⟨a0, a1, a2, a3, a4, a5, a6, a7, a8, a9, ⟨b1, b2⟩, b3⟩ := h
 exact ⟨⟨a0, a1, a2, a3, a4, a5, a6, a7, a8, a9⟩, b1, b2, b3⟩
section
variable {n l cp v : Nat} {c : UInt8} {cs ds : List Value} {sz : Int}
theorem head_low (m l cp : Nat) (k : Int) (b : Option Bool) (hm : 181 ≤ m) : ∀ i v, slot (oHead l cp k (b.map Value.bool)) i = some v → ∀ π, Keeps m π → RenV π v v := by
 intro i v hv π hk
 have hk' : Keeps 181 π := fun j hj => hk j (by omega)
 have hl : lowA 181 (oHead l cp k (b.map Value.bool)) = true := by cases b <;> kernel_rfl
 exact lowA_ren hl i v hv π hk'
theorem scan_none (hcs : cs.all isByte = true) (hds : ds.all isByte = true) (hl : l < 2 ^ 40) (hlc : l ≤ cp) (hlen : l ≤ ds.length) :
 ∀ (r k : Nat), k + r = l → (∀ i, k ≤ i → i < l → isRec ds l i = false) →
  SL Tryz.prog (r + 1) loop8 (oHead l cp (k : Int) none) (oS n cs ds sz) (.exit 0) (oHead l cp (l : Int) (some (.bool (decide ((l : Int) < (l : Int)))))) (oS n cs ds sz)
 | 0, k, hk, _ => by
  obtain rfl : k = l := by omega
  refine SL.exit (SR.of mixed okN_ok call3 good_parts.2.2.1 (Runs.path yx3 (openLast n k cp k cs ds sz) ?_))
  rw [decide_eq_false (Int.lt_irrefl _)]; rfl
 | r + 1, k, hk, hno => by
  have hr := hno k (Nat.le_refl _) (by omega)
  have e2 : IntKind.wrap .i64 ((k : Int) + 1) = ((k + 1 : Nat) : Int) := wrapAdd (b := 1) (by omega)
  have h := openRound n l cp k cs ds sz
  rw [e2] at h
  refine SL.step ?_ (scan_none hcs hds hl hlc hlen r (k + 1) (by omega) (fun i hi hil => hno i (by omega) hil))
  refine SR.forget (m := 181) (SR.of mixed okN_ok call3 good_parts.2.2.1 (Runs.path yx3 h ?_)) (oS_kept hcs hds ⟨rfl, rfl, rfl, rfl, rfl, rfl⟩ (Nat.le_of_ble_eq_true rfl) rfl) (Nat.le_of_ble_eq_true rfl) (head_low 181 l cp ((k + 1 : Nat) : Int) none (Nat.le_refl _))
  rw [hr]
  simp only [hds, true_and, and_true, Bool.not_false, Bool.and_true, Bool.and_eq_true, decide_eq_true_eq]
  exact ⟨by omega, ⟨by omega, by omega, by omega, by omega, by omega⟩, Nat.le_of_ble_eq_true rfl, rfl⟩
theorem scan_one (hcs : cs.all isByte = true) (hds : ds.all isByte = true) (hl : l < 2 ^ 40) (hlc : l ≤ cp) (hlen : l ≤ ds.length) :
 ∀ (r k : Nat), k + r = l → (∀ i, k ≤ i → i < l → isRec ds l i = false) →
  SL Tryz.prog (r + 1) loop8 (oHead l cp (k : Int) none) (oS1 n v c cs ds sz) (.exit 0) (oHead l cp (l : Int) (some (.bool (decide ((l : Int) < (l : Int)))))) (oS1 n v c cs ds sz)
 | 0, k, hk, _ => by
  obtain rfl : k = l := by omega
  refine SL.exit (SR.of mixed okN_ok call3 good_parts.2.2.1 (Runs.path yx3 (openLast1 n k cp k v c cs ds sz) ?_))
  rw [decide_eq_false (Int.lt_irrefl _)]; rfl
 | r + 1, k, hk, hno => by
  have hr := hno k (Nat.le_refl _) (by omega)
  have e2 : IntKind.wrap .i64 ((k : Int) + 1) = ((k + 1 : Nat) : Int) := wrapAdd (b := 1) (by omega)
  have h := openRound1 n l cp k v c cs ds sz
  rw [e2] at h
  refine SL.step ?_ (scan_one hcs hds hl hlc hlen r (k + 1) (by omega) (fun i hi hil => hno i (by omega) hil))
  refine SR.forget (m := 245) (SR.of mixed okN_ok call3 good_parts.2.2.1 (Runs.path yx3 h ?_)) (oS1_kept hcs hds ⟨rfl, rfl, rfl, rfl, rfl, rfl, rfl⟩ (Nat.le_of_ble_eq_true rfl) rfl) (Nat.le_of_ble_eq_true rfl) (head_low 245 l cp ((k + 1 : Nat) : Int) none (by omega))
  rw [hr]
  simp only [hds, true_and, and_true, Bool.not_false, Bool.and_true, Bool.and_eq_true, decide_eq_true_eq]
  exact ⟨by omega, ⟨by omega, by omega, by omega, by omega, by omega⟩, Nat.le_of_ble_eq_true rfl, rfl⟩
structure IsOne (ds : List Value) (l v : Nat) (c : UInt8) : Prop where
 is : isRec ds l 0 = true
 num : getFrom 0 0 (List.take 8 (List.drop (0 + 3) ds)) = 1
 old : getFrom 0 0 (List.take 8 (List.drop (0 + 11) ds)) = 1
 key : rdK ds 0 = 1
 val : rdV ds 0 = v
 name : bytesOf (List.take 1 (List.drop (0 + 25) ds)) = [c]
 put : byteN ds (0 + 2) = 0
theorem found (hcs : cs.all isByte = true) (hds : ds.all isByte = true) (hl : l < 2 ^ 40) (hlc : l ≤ cp) (hlen : l ≤ ds.length) (h1 : IsOne ds l v c) (hv : 34 + v ≤ l) :
 SR Tryz.prog loop8 (oHead l cp 0 none) (oS n cs ds sz) .normal (oHead l cp ((34 + v : Nat) : Int) none) (oS1 n v c cs ds sz) := by
 have h := openFound n l cp 0 cs ds sz
 rw [h1.is, h1.key, h1.val, h1.num, h1.old, h1.name, h1.put] at h
 simp only [if_true] at h
 have e : IntKind.wrap IntKind.i64 (((0 : Nat) : Int) + ((33 + 1 + v : Nat) : Int)) = ((34 + v : Nat) : Int) := by
  rw [wrapAdd (a := 0) (by omega)]; omega
 rw [e] at h
 have e34 : ((33 + 1 + v : Nat) : Int) = ((34 + v : Nat) : Int) := rfl
 refine SR.forget (m := 245) (SR.of mixed okN_ok call3 good_parts.2.2.1 (Runs.path yx3 h ?_)) (oS1_kept hcs hds ⟨rfl, rfl, rfl, rfl, rfl, rfl, rfl⟩ (Nat.le_of_ble_eq_true rfl) rfl) (Nat.le_of_ble_eq_true rfl) (head_low 245 l cp _ none (by omega))
 have f1 : decide (((0 : Nat) : Int) < (l : Int)) = true := decide_eq_true (by omega)
 have f2 : decide (l < 1099511627776) = true := decide_eq_true (by omega)
 have f3 : decide (l ≤ cp) = true := decide_eq_true hlc
 have f4 : decide (l ≤ ds.length) = true := decide_eq_true hlen
 simp only [f1, f2, f3, f4, hds, same, sameL, same1, sameM, sameA, beqBytes_self, decide_true, beq_self_eq_true, splice, List.take_succ_cons, List.take_zero, List.drop_succ_cons, List.drop_zero, List.drop_nil, List.nil_append, List.cons_append, List.append_nil, List.length_cons, List.length_nil, Nat.zero_add, Nat.reduceAdd, List.all_cons, List.all_nil, oneInt, Bool.and_self, Bool.and_true, Bool.true_and, Bool.not_true, Bool.not_false]
 try rfl
theorem open_none (hn : n < 2 ^ 40) (hn2 : 64 < n) (hlen : cs.length = n) (hcs : cs.all isByte = true) (hm1 : noMark cs (n - 64) = true) (hm2 : noMark cs (n - 32) = true) (hno : ∀ i, i < n - 64 → isRec cs (n - 64) i = false) :
 ∃ S', SR Tryz.prog (codeOf Tryz.prog 25) (startX Tryz.f25 [.pointer (some ⟨2, 0, none⟩)]) (oDisk n cs) .ret oEnd S' ∧
  Kept 5 (ofL [(0, .row cs 1 false), (2, diskRow n), (3, .map [] 0 false), (4, cacheRow ((n - 64 : Nat) : Int) (.slice none 0 0) 1 0)] 5) S' := by
 have h := openPre n cs
 have e1 : IntKind.wrap IntKind.i64 ((n : Int) - 64) = ((n - 64 : Nat) : Int) := wrapSub (b := 64) (by omega) (by omega)
 have e2 : IntKind.wrap IntKind.i64 (0 + (n : Int)) = (n : Int) := by rw [Int.zero_add]; exact wrap64 (by omega) (by omega)
 have e3 : IntKind.wrap IntKind.i64 ((n : Int) - 0) = (n : Int) := by rw [Int.sub_zero]; exact wrap64 (by omega) (by omega)
 have e4 : IntKind.wrap IntKind.i64 (((n - 64 : Nat) : Int) + 32) = ((n - 32 : Nat) : Int) := by rw [wrap64 (by omega) (by omega)]; omega
 have e5 : List.take 0 (List.drop 0 (zerosL [Value.int IntKind.u8 0] 0)) ++ List.take ((n - 0) * 1) (List.drop 0 cs) = cs := by
  rw [Nat.sub_zero, takeAll (by omega)]; rfl
 dsimp only at h
 rw [e1, e2, e3, e4, Int.toNat_natCast, Int.toNat_natCast, Int.toNat_natCast, e5] at h
 have r1 := Runs.path yx3 h (by
  have f1 : decide (0 < (n : Int)) = true := decide_eq_true (by omega)
  have f2 : decide ((n : Int) < 0) = false := decide_eq_false (by omega)
  have f3 : decide ((n : Int) < (n : Int)) = false := decide_eq_false (by omega)
  simp only [f1, f2, f3, hcs, hm1, hm2, ones_bytes hcs, hlen, same, sameL, same1, sameM, sameA, beqBytes_self, decide_true, beq_self_eq_true, true_and, and_true, Bool.and_self, Bool.and_true, Bool.true_and, Bool.not_true, Bool.not_false, Bool.and_eq_true, decide_eq_true_eq, Bool.not_eq_true', decide_eq_false_iff_not, List.length_cons, List.length_nil, Nat.sub_zero, Nat.zero_add]
  omega)
 rw [Nat.sub_zero, Nat.zero_add, Nat.sub_zero, Nat.sub_zero] at r1
 have r2 := SR.of mixed okN_ok call3 good_parts.2.1 (Runs.path yx3 (openHead n (n - 64) n cs cs ((n - 64 : Nat) : Int)) rfl)
 have r3 := SR.loop (scan_none (n := n) (l := n - 64) (cp := n) (sz := ((n - 64 : Nat) : Int)) hcs hcs (by omega) (by omega) (by omega) (n - 64) 0 (by omega) (fun i _ hi => hno i hi))
 have r4 := SR.of mixed okN_ok call3 good_parts.2.2.2 (Runs.path yx3 (openPost n (n - 64) n (n - 64) cs cs ((n - 64 : Nat) : Int) (some (.bool (decide (((n - 64 : Nat) : Int) < ((n - 64 : Nat) : Int)))))) rfl)
 refine ⟨_, by rw [code8]; exact SR.parts mixed okN_ok call3 pre8 _ _ (by simp [pre8]) good_parts.1 r1 (SR.preKept (oS_kept hcs hcs ⟨by kernel_rfl, by kernel_rfl, by kernel_rfl, by kernel_rfl, by kernel_rfl, by kernel_rfl⟩ (Nat.le_of_ble_eq_true rfl) rfl) (Nat.le_of_ble_eq_true rfl) (SR.seq (SR.seq r2 (SR.block_exit r3)) r4)), ?_⟩
 refine Kept.ofL (fun p hp => ?_) (Nat.le_of_ble_eq_true rfl) rfl
 simp only [List.mem_cons, List.not_mem_nil, or_false] at hp
 rcases hp with rfl | rfl | rfl | rfl
 ·exact ⟨by kernel_rfl, Nat.le_of_ble_eq_true rfl, fun π hk => bytes_ren hcs π⟩
 ·exact ⟨by kernel_rfl, Nat.le_of_ble_eq_true rfl, fun π hk => lowE_ren hk rfl⟩
 ·exact ⟨by kernel_rfl, Nat.le_of_ble_eq_true rfl, fun π hk => lowE_ren hk rfl⟩
 ·exact ⟨by kernel_rfl, Nat.le_of_ble_eq_true rfl, fun π hk => lowE_ren hk rfl⟩
theorem open_one (hn : n < 2 ^ 40) (hn2 : 64 < n) (hlen : cs.length = n) (hcs : cs.all isByte = true) (hm1 : noMark cs (n - 64) = true) (hm2 : noMark cs (n - 32) = true) (h1 : IsOne cs (n - 64) v c) (hv : 34 + v ≤ n - 64) (hno : ∀ i, 34 + v ≤ i → i < n - 64 → isRec cs (n - 64) i = false) :
 ∃ S', SR Tryz.prog (codeOf Tryz.prog 25) (startX Tryz.f25 [.pointer (some ⟨2, 0, none⟩)]) (oDisk n cs) .ret oEnd S' ∧
  Kept 245 (ofL [(0, .row cs 1 false), (2, diskRow n), (3, .map [⟨.string ⟨#[c]⟩, .agg (recCells c v).toArray, 0⟩] 1 false), (4, cacheRow ((n - 64 : Nat) : Int) (.slice (some ⟨244, 0, none⟩) 1 1) 2 ((34 + v : Nat) : Int)), (244, .row (recCells c v) 6 false)] 245) S' := by
 have h := openPre n cs
 have e1 : IntKind.wrap IntKind.i64 ((n : Int) - 64) = ((n - 64 : Nat) : Int) := wrapSub (b := 64) (by omega) (by omega)
 have e2 : IntKind.wrap IntKind.i64 (0 + (n : Int)) = (n : Int) := by rw [Int.zero_add]; exact wrap64 (by omega) (by omega)
 have e3 : IntKind.wrap IntKind.i64 ((n : Int) - 0) = (n : Int) := by rw [Int.sub_zero]; exact wrap64 (by omega) (by omega)
 have e4 : IntKind.wrap IntKind.i64 (((n - 64 : Nat) : Int) + 32) = ((n - 32 : Nat) : Int) := by rw [wrap64 (by omega) (by omega)]; omega
 have e5 : List.take 0 (List.drop 0 (zerosL [Value.int IntKind.u8 0] 0)) ++ List.take ((n - 0) * 1) (List.drop 0 cs) = cs := by
  rw [Nat.sub_zero, takeAll (by omega)]; rfl
 dsimp only at h
 rw [e1, e2, e3, e4, Int.toNat_natCast, Int.toNat_natCast, Int.toNat_natCast, e5] at h
 have r1 := Runs.path yx3 h (by
  have f1 : decide (0 < (n : Int)) = true := decide_eq_true (by omega)
  have f2 : decide ((n : Int) < 0) = false := decide_eq_false (by omega)
  have f3 : decide ((n : Int) < (n : Int)) = false := decide_eq_false (by omega)
  simp only [f1, f2, f3, hcs, hm1, hm2, ones_bytes hcs, hlen, same, sameL, same1, sameM, sameA, beqBytes_self, decide_true, beq_self_eq_true, true_and, and_true, Bool.and_self, Bool.and_true, Bool.true_and, Bool.not_true, Bool.not_false, Bool.and_eq_true, decide_eq_true_eq, Bool.not_eq_true', decide_eq_false_iff_not, List.length_cons, List.length_nil, Nat.sub_zero, Nat.zero_add]
  omega)
 rw [Nat.sub_zero, Nat.zero_add, Nat.sub_zero, Nat.sub_zero] at r1
 have r2 := SR.of mixed okN_ok call3 good_parts.2.1 (Runs.path yx3 (openHead n (n - 64) n cs cs ((n - 64 : Nat) : Int)) rfl)
 have r30 := found (n := n) (l := n - 64) (cp := n) (sz := ((n - 64 : Nat) : Int)) hcs hcs (by omega) (by omega) (by omega) h1 hv
 have r31 := scan_one (n := n) (v := v) (c := c) (l := n - 64) (cp := n) (sz := ((n - 64 : Nat) : Int)) hcs hcs (by omega) (by omega) (by omega) (n - 64 - (34 + v)) (34 + v) (by omega) (fun i hi hi2 => hno i hi hi2)
 have r3 := SR.loop (SL.step r30 r31)
 have r4 := SR.of mixed okN_ok call3 good_parts.2.2.2 (Runs.path yx3 (openPost1 n (n - 64) n (n - 64) v c cs cs ((n - 64 : Nat) : Int) (some (.bool (decide (((n - 64 : Nat) : Int) < ((n - 64 : Nat) : Int)))))) (by
  unfold recCells
  simp only [same, sameL, same1, sameM, sameA, beqBytes_self, decide_true, beq_self_eq_true, splice, List.take_succ_cons, List.take_zero, List.drop_succ_cons, List.drop_zero, List.drop_nil, List.nil_append, List.cons_append, List.append_nil, List.length_cons, List.length_nil, Nat.zero_add, Nat.reduceAdd, List.all_cons, List.all_nil, oneInt, Bool.and_self, Bool.and_true, Bool.true_and, Bool.not_true, Bool.not_false]
  kernel_rfl))
 refine ⟨_, by rw [code8]; exact SR.parts mixed okN_ok call3 pre8 _ _ (by simp [pre8]) good_parts.1 r1 (SR.preKept (oS_kept hcs hcs ⟨by kernel_rfl, by kernel_rfl, by kernel_rfl, by kernel_rfl, by kernel_rfl, by kernel_rfl⟩ (Nat.le_of_ble_eq_true rfl) rfl) (Nat.le_of_ble_eq_true rfl) (SR.seq (SR.seq r2 (SR.block_exit r3)) r4)), ?_⟩
 refine Kept.ofL (fun p hp => ?_) (Nat.le_of_ble_eq_true rfl) rfl
 simp only [List.mem_cons, List.not_mem_nil, or_false] at hp
 rcases hp with rfl | rfl | rfl | rfl | rfl
 ·exact ⟨by kernel_rfl, Nat.le_of_ble_eq_true rfl, fun π hk => bytes_ren hcs π⟩
 ·exact ⟨by kernel_rfl, Nat.le_of_ble_eq_true rfl, fun π hk => lowE_ren hk rfl⟩
 ·exact ⟨by kernel_rfl, Nat.le_of_ble_eq_true rfl, fun π hk => lowE_ren hk rfl⟩
 ·exact ⟨by kernel_rfl, Nat.le_of_ble_eq_true rfl, fun π hk => lowE_ren hk rfl⟩
 ·exact ⟨by kernel_rfl, Nat.le_of_ble_eq_true rfl, fun π hk => lowE_ren hk rfl⟩
end
def noRecs (cs : List Value) (l k : Nat) : Bool := (List.range (l - k)).all fun i => !isRec cs l (k + i)
theorem noRecs_is {cs : List Value} {l k : Nat} : noRecs cs l k = true ↔ ∀ i, k ≤ i → i < l → isRec cs l i = false := by
 unfold noRecs
 rw [List.all_eq_true]
 constructor
 ·intro h i h1 h2
  have := h (i - k) (List.mem_range.2 (by omega))
  rw [show k + (i - k) = i by omega] at this
  simpa using this
 ·intro h i hi
  rw [List.mem_range] at hi
  simp [h (k + i) (by omega) (by omega)]
def pi3 (q l p : Nat) (S : St) : Nat → Nat := fun i => if i = 0 then q else if i = 1 then l else if i = 2 then p else S.next + (i - 3)
theorem pi3_new (q l p : Nat) (S : St) {i : Nat} (h : 3 ≤ i) : pi3 q l p S i = S.next + (i - 3) := by
 unfold pi3; rw [if_neg (by omega), if_neg (by omega), if_neg (by omega)]
theorem emb3 {q l p n : Nat} {cs : List Value} {S : St} (hq : q < S.next) (hl : l < S.next) (hp : p < S.next) (h1 : p ≠ q) (h2 : p ≠ l) (h3 : q ≠ l) : Emb (pi3 q l p S) (oDisk n cs) S :=
 { inj := fun i j hi hj h => by
    have hi' : i < 3 := hi
    have hj' : j < 3 := hj
    obtain rfl | rfl | rfl : i = 0 ∨ i = 1 ∨ i = 2 := by omega
    all_goals (obtain rfl | rfl | rfl : j = 0 ∨ j = 1 ∨ j = 2 := by omega)
    all_goals (simp [pi3] at h; try omega)
   lt := fun i hi => by
    have hi' : i < 3 := hi
    obtain rfl | rfl | rfl : i = 0 ∨ i = 1 ∨ i = 2 := by omega
    all_goals (simp [pi3]; omega)
   new := fun i hi => pi3_new q l p S hi
   glob := rfl }
def diskAt (q l n : Nat) : Ent := .row [.slice (some ⟨q, 0, none⟩) n n, .slice (some ⟨l, 0, none⟩) n n, .slice none 0 0, .int .i64 (-1), .bool false] 0 false
def cacheAt (p m : Nat) (sz : Int) (recs : Value) (nx hd : Int) : Ent := .row [.pointer (some ⟨p, 0, none⟩), .int .i64 sz, .int .u64 0, .int .i64 0, recs, .map (some m), .int .u64 nx, .int .i64 hd, .int .i64 0, .bool false] 0 false
theorem disk_ren (q l p n : Nat) (S : St) : RenE (pi3 q l p S) (diskRow n) (diskAt q l n) :=
 .row (.cons (by have := RenV.slice (π := pi3 q l p S) 0 0 n n; exact this) (.cons (by have := RenV.slice (π := pi3 q l p S) 1 0 n n; exact this) (.cons (.plain1 rfl) (.cons (.int _ _) (.cons (.bool _) .nil)))))
theorem cache_ren (q l p : Nat) (S : St) (sz nx hd : Int) {r r' : Value} (hr : RenV (pi3 q l p S) r r') : RenE (pi3 q l p S) (cacheRow sz r nx hd) (cacheAt p S.next sz r' nx hd) :=
 .row (.cons (by have := RenV.ptr (π := pi3 q l p S) 2 0; exact this) (.cons (.int _ _) (.cons (.int _ _) (.cons (.int _ _) (.cons hr (.cons (by
  have := RenV.map (π := pi3 q l p S) 3
  rw [pi3_new q l p S (by omega)] at this
  exact this) (.cons (.int _ _) (.cons (.int _ _) (.cons (.int _ _) (.cons (.bool _) .nil))))))))))
theorem small3 {q l p n : Nat} {cs : List Value} {S : St} (hb : cs.all isByte = true) (hq : S.heap.get q = some (.row cs 1 false)) (hp : S.heap.get p = some (diskAt q l n)) :
 ∀ i x, (oDisk n cs).heap.get i = some x → i < (oDisk n cs).next ∧ ∃ y, S.heap.get (pi3 q l p S i) = some y ∧ RenE (pi3 q l p S) x y := by
 intro i x hx
 rcases get_putL _ _ i x hx with h1 | h1
 ·simp [PT.get] at h1
 ·simp only [List.mem_cons, List.not_mem_nil, or_false, Prod.mk.injEq] at h1
  rcases h1 with ⟨rfl, rfl⟩ | ⟨rfl, rfl⟩
  ·exact ⟨Nat.le_of_ble_eq_true rfl, _, by simpa [pi3] using hq, bytes_ren hb _⟩
  ·exact ⟨Nat.le_of_ble_eq_true rfl, _, by simpa [pi3] using hp, disk_ren q l p n S⟩
theorem old3 {q l p n : Nat} {cs : List Value} {S : St} {k : Nat} (h1 : k ≠ q) (h2 : k ≠ p) : ∀ i x, (oDisk n cs).heap.get i = some x → k ≠ pi3 q l p S i := by
 intro i x hx
 rcases get_putL _ _ i x hx with h | h
 ·simp [PT.get] at h
 ·simp only [List.mem_cons, List.not_mem_nil, or_false, Prod.mk.injEq] at h
  rcases h with ⟨rfl, _⟩ | ⟨rfl, _⟩
  ·simpa [pi3] using h1
  ·simpa [pi3] using h2
def openNoneF (args : List Value) (S : St) : Y (Value × St) :=
 match args with
 | [.pointer (some ⟨p, 0, none⟩)] => match S.heap.get p with
  | some (.row [.slice (some ⟨q, 0, none⟩) n n1, .slice (some ⟨l, 0, none⟩) n2 n3, .slice none 0 0, .int .i64 fu, .bool false] 0 false) => match S.heap.get q with
   | some (.row cs 1 false) => .req (decide (n1 = n ∧ n2 = n ∧ n3 = n)) (.req (decide (fu = -1)) (.req (decide (p ≠ q ∧ p ≠ l ∧ q ≠ l ∧ l < S.next)) (.req (decide (64 < n)) (.req (decide (n < 1099511627776)) (.req (decide (cs.length = n)) (.req (cs.all isByte)
    (.req (noMark cs (n - 64)) (.req (noMark cs (n - 32)) (.req (noRecs cs (n - 64) 0)
     (.pure (.tuple #[.pointer (some ⟨S.next + 1, 0, none⟩), .int .i64 0],
      { S with heap := (S.heap.set S.next (some (.map [] 0 false))).set (S.next + 1) (some (cacheAt p S.next ((n - 64 : Nat) : Int) (.slice none 0 0) 1 0)), next := S.next + 2 })))))))))))
   | _ => none
  | _ => none
 | _ => none
theorem openNoneF_sound (args : List Value) (S : St) (v : Value) (S' : St) (hx : openNoneF args S = some (true, (v, S'))) (α : Place) (w : World) (args' : Array Value) (h : Rel α S w) (ha : LRel α args args'.toList) :
 Calls Tryz.prog 25 args' w fun e w' => ∃ β v', e = .returned v' ∧ Next α S w β S' w' ∧ VRel β v v' := by
 unfold openNoneF at hx
 split at hx
 ·rename_i p
  split at hx
  ·rename_i q n n1 l n2 n3 fu hp
   split at hx
   ·rename_i cs hq
    simp only [Y.req_is, Y.pure_is, decide_eq_true_eq, Prod.mk.injEq] at hx
    obtain ⟨⟨rfl, rfl, rfl⟩, rfl, ⟨g1, g2, g3, g4⟩, h1, h2, h3, h4, h5, h6, h7, rfl, rfl⟩ := hx
    have hp' : S.heap.get p = some (diskAt q l n3) := hp
    have hlq := h.live_lt hq
    have hlp := h.live_lt hp
    have he := emb3 (n := n3) (cs := cs) hlq g4 hlp g1 g2 g3
    have hsm := small3 h4 hq hp'
    obtain ⟨T, hrun, hk⟩ := open_none (by omega) h1 h3 h4 h5 h6 (fun i hi => noRecs_is.1 h7 i (Nat.zero_le _) hi)
    have hl : LRel (fun i => α (pi3 q l p S i)) [.pointer (some ⟨2, 0, none⟩)] args'.toList :=
     (RenL.lrel (π := pi3 q l p S) (.cons (RenV.ptr 2 0) .nil) α _).2 ha
    refine (SR.calls (v := .tuple #[.pointer (some ⟨4, 0, none⟩), .int .i64 0]) (f := 25) (fn := Tryz.f25) Tryz.func25 body8 (hrun.forget hk (Nat.le_of_ble_eq_true rfl) (lowA_ren (m := 5) (by kernel_rfl))) (.inr rfl) (by kernel_rfl) (h.small he hsm) hl).mono ?_
    rintro x w' ⟨β, v', rfl, hn, hv⟩
    obtain ⟨γ, hg, hβ⟩ := hn.large (S' := { S with heap := (S.heap.set S.next (some (.map [] 0 false))).set (S.next + 1) (some (cacheAt p S.next ((n3 - 64 : Nat) : Int) (.slice none 0 0) 1 0)), next := S.next + 2 }) h he hsm rfl rfl (fun k y hk => by
     have hk' : ((S.heap.set S.next (some (.map [] 0 false))).set (S.next + 1) (some (cacheAt p S.next ((n3 - 64 : Nat) : Int) (.slice none 0 0) 1 0))).get k = some y := hk
     rw [PT.get_set] at hk'
     split at hk'
     ·rename_i hkk; cases hk'
      exact .inl ⟨4, cacheRow ((n3 - 64 : Nat) : Int) (.slice none 0 0) 1 0, by rw [pi3_new q l p S (by omega)]; omega, by kernel_rfl, cache_ren q l p S _ _ _ (.plain1 rfl), fun hr => by cases hr⟩
     ·rw [PT.get_set] at hk'
      split at hk'
      ·rename_i hkk; cases hk'
       exact .inl ⟨3, .map [] 0 false, by rw [pi3_new q l p S (by omega)]; omega, by kernel_rfl, lowE_ren (m := 0) (fun j hj => by omega) rfl, fun hr => by cases hr⟩
      ·by_cases hkq : k = q
       ·subst hkq; rw [hq] at hk'; cases hk'
        exact .inl ⟨0, .row cs 1 false, by simp [pi3], by kernel_rfl, bytes_ren h4 _, fun hr => by cases hr⟩
       ·by_cases hkp : k = p
        ·subst hkp; rw [hp'] at hk'; cases hk'
         exact .inl ⟨2, diskRow n3, by simp [pi3], by kernel_rfl, disk_ren q l k n3 S, fun hr => by cases hr⟩
        ·exact .inr ⟨hk', h.live_lt hk', old3 hkq hkp⟩)
    refine ⟨γ, v', rfl, hg, ?_⟩
    rw [hβ] at hv
    refine (RenV.tuple (π := pi3 q l p S) (.cons ?_ (.cons (.int _ _) .nil)) γ v').1 hv
    have := RenV.ptr (π := pi3 q l p S) 4 0
    rw [pi3_new q l p S (by omega)] at this
    exact this
   ·cases hx
  ·cases hx
 ·cases hx
def isOne (cs : List Value) (l : Nat) (c : UInt8) : Bool :=
 isRec cs l 0 && decide (getFrom 0 0 (List.take 8 (List.drop (0 + 3) cs)) = 1) && decide (getFrom 0 0 (List.take 8 (List.drop (0 + 11) cs)) = 1) && decide (rdK cs 0 = 1) &&
  decide (bytesOf (List.take 1 (List.drop (0 + 25) cs)) = [c]) && decide (byteN cs (0 + 2) = 0)
theorem isOne_is {cs : List Value} {l : Nat} {c : UInt8} (h : isOne cs l c = true) : IsOne cs l (rdV cs 0) c := by
 unfold isOne at h
 simp only [Bool.and_eq_true, decide_eq_true_eq] at h
 obtain ⟨⟨⟨⟨⟨h1, h2⟩, h3⟩, h4⟩, h5⟩, h6⟩ := h
 exact ⟨h1, h2, h3, h4, rfl, h5, h6⟩
def oneHeap (S : St) (p n v : Nat) (c : UInt8) : PT Ent :=
 ((S.heap.set S.next (some (.map [⟨.string ⟨#[c]⟩, .agg (recCells c v).toArray, 0⟩] 1 false))).set (S.next + 1) (some (cacheAt p S.next ((n - 64 : Nat) : Int) (.slice (some ⟨S.next + 241, 0, none⟩) 1 1) 2 ((34 + v : Nat) : Int)))).set (S.next + 241)
   (some (.row (recCells c v) 6 false))
def openOneF (c : UInt8) (args : List Value) (S : St) : Y (Value × St) :=
 match args with
 | [.pointer (some ⟨p, 0, none⟩)] => match S.heap.get p with
  | some (.row [.slice (some ⟨q, 0, none⟩) n n1, .slice (some ⟨l, 0, none⟩) n2 n3, .slice none 0 0, .int .i64 fu, .bool false] 0 false) => match S.heap.get q with
   | some (.row cs 1 false) => .req (decide (n1 = n ∧ n2 = n ∧ n3 = n)) (.req (decide (fu = -1)) (.req (decide (p ≠ q ∧ p ≠ l ∧ q ≠ l ∧ l < S.next)) (.req (decide (64 < n)) (.req (decide (n < 1099511627776)) (.req (decide (cs.length = n)) (.req (cs.all isByte)
    (.req (noMark cs (n - 64)) (.req (noMark cs (n - 32)) (.req (isOne cs (n - 64) c) (.req (decide (34 + rdV cs 0 ≤ n - 64)) (.req (noRecs cs (n - 64) (34 + rdV cs 0))
     (.pure (.tuple #[.pointer (some ⟨S.next + 1, 0, none⟩), .int .i64 0],
      { S with heap := oneHeap S p n (rdV cs 0) c, next := S.next + 242 })))))))))))))
   | _ => none
  | _ => none
 | _ => none
theorem openOneF_sound (c : UInt8) (args : List Value) (S : St) (v : Value) (S' : St) (hx : openOneF c args S = some (true, (v, S'))) (α : Place) (w : World) (args' : Array Value) (h : Rel α S w) (ha : LRel α args args'.toList) :
 Calls Tryz.prog 25 args' w fun e w' => ∃ β v', e = .returned v' ∧ Next α S w β S' w' ∧ VRel β v v' := by
 unfold openOneF at hx
 split at hx
 ·rename_i p
  split at hx
  ·rename_i q n n1 l n2 n3 fu hp
   split at hx
   ·rename_i cs hq
    simp only [Y.req_is, Y.pure_is, decide_eq_true_eq, Prod.mk.injEq] at hx
    obtain ⟨⟨rfl, rfl, rfl⟩, rfl, ⟨g1, g2, g3, g4⟩, h1, h2, h3, h4, h5, h6, h7, h8, h9, rfl, rfl⟩ := hx
    have hp' : S.heap.get p = some (diskAt q l n3) := hp
    have hlq := h.live_lt hq
    have hlp := h.live_lt hp
    have he := emb3 (n := n3) (cs := cs) hlq g4 hlp g1 g2 g3
    have hsm := small3 h4 hq hp'
    obtain ⟨T, hrun, hk⟩ := open_one (v := rdV cs 0) (c := c) (by omega) h1 h3 h4 h5 h6 (isOne_is h7) h8 (fun i hi hi2 => noRecs_is.1 h9 i hi hi2)
    have hl : LRel (fun i => α (pi3 q l p S i)) [.pointer (some ⟨2, 0, none⟩)] args'.toList :=
     (RenL.lrel (π := pi3 q l p S) (.cons (RenV.ptr 2 0) .nil) α _).2 ha
    refine (SR.calls (v := .tuple #[.pointer (some ⟨4, 0, none⟩), .int .i64 0]) (f := 25) (fn := Tryz.f25) Tryz.func25 body8 (hrun.forget hk (Nat.le_of_ble_eq_true rfl) (lowA_ren (m := 245) (by kernel_rfl))) (.inr rfl) (by kernel_rfl) (h.small he hsm) hl).mono ?_
    rintro x w' ⟨β, v', rfl, hn, hv⟩
    obtain ⟨γ, hg, hβ⟩ := hn.large (S' := { S with heap := oneHeap S p n3 (rdV cs 0) c, next := S.next + 242 }) h he hsm rfl rfl (fun k y hk => by
     have hk' : (oneHeap S p n3 (rdV cs 0) c).get k = some y := hk
     unfold oneHeap at hk'
     rw [PT.get_set] at hk'
     split at hk'
     ·rename_i hkk; cases hk'
      exact .inl ⟨244, .row (recCells c (rdV cs 0)) 6 false, by rw [pi3_new q l p S (by omega)]; omega, by kernel_rfl, lowE_ren (m := 0) (fun j hj => by omega) rfl, fun hr => by cases hr⟩
     ·rw [PT.get_set] at hk'
      split at hk'
      ·rename_i hkk; cases hk'
       exact .inl ⟨4, cacheRow ((n3 - 64 : Nat) : Int) (.slice (some ⟨244, 0, none⟩) 1 1) 2 ((34 + rdV cs 0 : Nat) : Int), by rw [pi3_new q l p S (by omega)]; omega, by kernel_rfl, cache_ren q l p S _ _ _ (by
        have := RenV.slice (π := pi3 q l p S) 244 0 1 1
        rw [pi3_new q l p S (by omega)] at this
        exact this), fun hr => by cases hr⟩
      ·rw [PT.get_set] at hk'
       split at hk'
       ·rename_i hkk; cases hk'
        exact .inl ⟨3, .map [⟨.string ⟨#[c]⟩, .agg (recCells c (rdV cs 0)).toArray, 0⟩] 1 false, by rw [pi3_new q l p S (by omega)]; omega, by kernel_rfl, lowE_ren (m := 0) (fun j hj => by omega) rfl, fun hr => by cases hr⟩
       ·by_cases hkq : k = q
        ·subst hkq; rw [hq] at hk'; cases hk'
         exact .inl ⟨0, .row cs 1 false, by simp [pi3], by kernel_rfl, bytes_ren h4 _, fun hr => by cases hr⟩
        ·by_cases hkp : k = p
         ·subst hkp; rw [hp'] at hk'; cases hk'
          exact .inl ⟨2, diskRow n3, by simp [pi3], by kernel_rfl, disk_ren q l k n3 S, fun hr => by cases hr⟩
         ·exact .inr ⟨hk', h.live_lt hk', old3 hkq hkp⟩)
    refine ⟨γ, v', rfl, hg, ?_⟩
    rw [hβ] at hv
    refine (RenV.tuple (π := pi3 q l p S) (.cons ?_ (.cons (.int _ _) .nil)) γ v').1 hv
    have := RenV.ptr (π := pi3 q l p S) 4 0
    rw [pi3_new q l p S (by omega)] at this
    exact this
   ·cases hx
  ·cases hx
 ·cases hx
def tri (g0 g1 : Ent) (eb ev : Option Ent) (l : List (Nat × Ent)) (n : Nat) : St := { heap := putL ((((PT.leaf.set 0 (some g0)).set 1 (some g1)).set 2 eb).set 3 ev) l, next := n, glob := 1 }
def wordsL : List Value := [.string ⟨#[105, 109, 112, 111, 114, 116]⟩, .string ⟨#[116, 121, 112, 101]⟩, .string ⟨#[100, 101, 102]⟩, .string ⟨#[108, 101, 116]⟩, .string ⟨#[105, 110]⟩, .string ⟨#[105, 102]⟩, .string ⟨#[116, 104, 101, 110]⟩, .string ⟨#[101, 108, 115, 101]⟩, .string ⟨#[109, 97, 116, 99, 104]⟩, .string ⟨#[102, 110]⟩, .string ⟨#[116, 114, 117, 101]⟩, .string ⟨#[102, 97, 108, 115, 101]⟩]
def aliveF (K : Nat) (args : List Value) (S : St) : Y (Value × St) :=
 match args, S.heap.get 0, S.heap.get 1 with
 | [], some (.row [.slice (some ⟨1, 0, none⟩) 12 12] 0 true), some (.row ws 1 true) => .req (decide (1 ≤ S.glob)) (.req (sameL ws wordsL) (.pure (.bool true, S)))
 | _, _, _ => none
def orcN : Orc := fun f => if f = 25 then some openNoneF else orc3 f
noncomputable def ycN : YCall := ygo Tryz.prog okN orcN kp 100
def byteRow (cs : List Value) : Ent := .row cs 1 false
def runVal (bb : Nat → Nat) (pos len j : Nat) : Nat := if pos ≤ j ∧ j < pos + len then bb ((j - pos) % 3) else 0
def mapRow (f : Nat → Nat) (z : Nat) : List Value := (List.range z).map fun j => .int .u8 ((f j : Nat) : Int)
theorem mapRow_get {f : Nat → Nat} {z j : Nat} (h : j < z) : (mapRow f z).getD j undefX = .int .u8 ((f j : Nat) : Int) := by
 simp [mapRow, List.getD_eq_getElem?_getD, h]
theorem mapRow_byte {f : Nat → Nat} {z j : Nat} (h : j < z) : byteN (mapRow f z) j = (f j : Int) := by
 unfold byteN; rw [mapRow_get h]; rfl
theorem mapRow_bytes {f : Nat → Nat} {z : Nat} (h : ∀ j, f j < 256) : (mapRow f z).all isByte = true := by
 rw [List.all_eq_true]
 intro v hv
 obtain ⟨j, _, rfl⟩ := List.mem_map.1 hv
 have := h j
 simp only [isByte, Bool.and_eq_true, decide_eq_true_eq]; omega
theorem mapRow_part {f : Nat → Nat} {z o k : Nat} (h : o + k ≤ z) : ((mapRow f z).drop o).take k = mapRow (fun t => f (o + t)) k := by
 apply List.ext_getElem?
 intro i
 simp only [mapRow, List.getElem?_take, List.getElem?_drop, List.getElem?_map]
 by_cases hi : i < k
 ·rw [if_pos hi, List.getElem?_range (by omega), List.getElem?_range hi]; rfl
 ·rw [if_neg hi, List.getElem?_eq_none (by simp; omega)]; rfl
theorem mapRow_congr {f g : Nat → Nat} {k : Nat} (h : ∀ t, t < k → f t = g t) : mapRow f k = mapRow g k := by
 unfold mapRow
 apply List.map_congr_left
 intro a ha
 rw [h a (List.mem_range.1 ha)]
theorem natsOf_map (f : Nat → Nat) (k : Nat) : natsOf (mapRow f k) = (List.range k).map f := by
 unfold natsOf mapRow
 rw [List.map_map]
 apply List.map_congr_left
 intro a _
 simp [intOf]
def pat (e x t : Nat) : Nat := if t < e then (if t % 3 = 0 then 99 else if t % 3 = 1 then 107 else x) else 0
theorem pat20 (x : Nat) (hx : x < 2) : ∃ b, b < 2 ^ 64 ∧ 1048576 ≤ b ∧ natSum (natSeed b) ((List.range 132).map (pat 20 x)) = 0 := by
 obtain rfl | rfl : x = 0 ∨ x = 1 := by omega
 ·exact ⟨3844249011545161948, by decide, by decide, by kernel_rfl⟩
 ·exact ⟨9729374390490840825, by decide, by decide, by kernel_rfl⟩
theorem pat21 : ∃ b, b < 2 ^ 64 ∧ 1048576 ≤ b ∧ natSum (natSeed b) ((List.range 132).map (pat 21 0)) = 0 := ⟨3844249011545161948, by decide, by decide, by kernel_rfl⟩
theorem pat22 : ∃ b, b < 2 ^ 64 ∧ 1048576 ≤ b ∧ natSum (natSeed b) ((List.range 231).map (pat 22 0)) = 0 := ⟨11617975817529741811, by decide, by decide, by kernel_rfl⟩
theorem pat_lt {e x t : Nat} (hx : x < 256) : pat e x t < 256 := by
 unfold pat; split <;> (try split) <;> (try split) <;> omega
theorem patSum {e x m i : Nat} (hx : x < 2) (hi : i < 1048576) (h : ∃ b, b < 2 ^ 64 ∧ 1048576 ≤ b ∧ natSum (natSeed b) ((List.range m).map (pat e x)) = 0) :
 sumFrom (sumSeed (i : Int)) (mapRow (pat e x) m) ≠ 0 := by
 obtain ⟨b, hb, hb2, h0⟩ := h
 rw [sumSeed_eq i (by omega), sumFrom_eq _ _ (natSeed_lt i) (mapRow_bytes fun j => pat_lt (by omega)), natsOf_map]
 have := sum_ne (l := (List.range m).map (pat e x)) (a := i) (b := b) (fun c hc => by
  obtain ⟨t, _, rfl⟩ := List.mem_map.1 hc
  have := pat_lt (e := e) (x := x) (t := t) (by omega)
  omega) (by omega) hb h0 (by omega)
 intro h
 exact this (by exact_mod_cast h)
theorem leN_two (f : Nat → Nat) : leN (mapRow f 2) = f 0 + 256 * f 1 := by
 have : mapRow f 2 = [.int .u8 (f 0 : Int), .int .u8 (f 1 : Int)] := rfl
 rw [this]; simp [leN, intOf]
theorem leN_four (f : Nat → Nat) : leN (mapRow f 4) = f 0 + 256 * (f 1 + 256 * (f 2 + 256 * f 3)) := by
 have : mapRow f 4 = [.int .u8 (f 0 : Int), .int .u8 (f 1 : Int), .int .u8 (f 2 : Int), .int .u8 (f 3 : Int)] := rfl
 rw [this]; simp [leN, intOf]
theorem leN_zero (f : Nat → Nat) (h : ∀ t, t < 8 → f t = 0) : getFrom 0 0 (mapRow f 8) = 0 := by
 rw [mapRow_congr (g := fun _ => 0) h]; rfl
theorem noRec_run {bb : Nat → Nat} {pos len z i : Nat} (hb : ∀ j, bb j < 256) (hz : z < 20000) (hi : i < z - 64) : isRec (mapRow (runVal bb pos len) z) (z - 64) i = false := by
 rw [Bool.eq_false_iff]
 intro h
 unfold isRec rdSum at h
 simp only [Bool.and_eq_true, decide_eq_true_eq] at h
 obtain ⟨⟨⟨⟨⟨⟨⟨h33, hc⟩, hk⟩, hx⟩, hK1⟩, hK2⟩, hV⟩, hS⟩ := h
 have hrv : ∀ j, runVal bb pos len j < 256 := fun j => by unfold runVal; split; exact hb _; omega
 rw [mapRow_byte (by omega)] at hc hk hx
 have eK : rdK (mapRow (runVal bb pos len) z) i = runVal bb pos len (i + 19) + 256 * runVal bb pos len (i + 20) := by
  unfold rdK
  rw [mapRow_part (by omega), leN_two]
 have eV : rdV (mapRow (runVal bb pos len) z) i = runVal bb pos len (i + 21) + 256 * (runVal bb pos len (i + 22) + 256 * (runVal bb pos len (i + 23) + 256 * runVal bb pos len (i + 24))) := by
  unfold rdV
  rw [mapRow_part (by omega), leN_four]
 have hin : pos ≤ i ∧ i < pos + len := by
  unfold runVal at hc
  split at hc
  ·assumption
  ·exact absurd hc (by decide)
 obtain ⟨p1, p2⟩ := hin
 obtain ⟨a, ha⟩ : ∃ a, a = (i - pos) % 3 := ⟨_, rfl⟩
 obtain ⟨e, he⟩ : ∃ e, e = pos + len - i := ⟨_, rfl⟩
 have g : ∀ t, runVal bb pos len (i + t) = if t < e then bb ((a + t) % 3) else 0 := by
  intro t
  unfold runVal
  by_cases ht : t < e
  ·rw [if_pos ht, if_pos (by omega)]; congr 1; omega
  ·rw [if_neg ht, if_neg (by omega)]
 have g0 := g 0
 have g1 := g 1
 have g2 := g 2
 have g19 := g 19
 have g20 := g 20
 have g21 := g 21
 have g22 := g 22
 have g23 := g 23
 have g24 := g 24
 rw [show (a + 19) % 3 = (a + 1) % 3 by omega] at g19
 rw [show (a + 20) % 3 = (a + 2) % 3 by omega] at g20
 rw [show (a + 21) % 3 = (a + 0) % 3 by omega] at g21
 rw [show (a + 22) % 3 = (a + 1) % 3 by omega] at g22
 rw [Nat.add_zero] at g0
 have c0 : bb ((a + 0) % 3) = 99 := by rw [if_pos (by omega)] at g0; omega
 have e1 : 1 < e := by
  rcases Nat.lt_or_ge 1 e with h1 | h1
  ·exact h1
  ·rw [if_neg (by omega)] at g1; omega
 have c1 : bb ((a + 1) % 3) = 107 := by rw [if_pos e1] at g1; omega
 rw [eK] at hK1 hK2 hV hS
 rw [eV] at hV hS
 have e20 : 20 ≤ e := by
  rcases Nat.lt_or_ge e 20 with h1 | h1
  ·rw [if_neg (by omega)] at g19 g20; omega
  ·exact h1
 rw [if_pos (by omega)] at g19
 rw [if_pos (by omega)] at g2
 have x1 : bb ((a + 2) % 3) < 2 := by omega
 have e22 : e ≤ 22 := by
  rcases Nat.lt_or_ge 22 e with h1 | h1
  ·rw [if_pos (by omega)] at g22; omega
  ·exact h1
 rw [if_neg (by omega)] at g22 g23 g24
 have gp : ∀ x, bb ((a + 2) % 3) = x → ∀ t, runVal bb pos len (i + t) = pat e x t := by
  intro x hx t
  rw [g t]
  unfold pat
  split
  ·by_cases t0 : t % 3 = 0
   ·rw [if_pos t0, show (a + t) % 3 = (a + 0) % 3 by omega, c0]
   ·rw [if_neg t0]
    by_cases t1 : t % 3 = 1
    ·rw [if_pos t1, show (a + t) % 3 = (a + 1) % 3 by omega, c1]
    ·rw [if_neg t1, show (a + t) % 3 = (a + 2) % 3 by omega, hx]
  ·rfl
 have fin : ∀ (m x : Nat), x < 2 → bb ((a + 2) % 3) = x → 25 ≤ m → i + m + 8 ≤ z → (∃ b, b < 2 ^ 64 ∧ 1048576 ≤ b ∧ natSum (natSeed b) ((List.range m).map (pat e x)) = 0) →
  getFrom 0 0 (((mapRow (runVal bb pos len) z).drop (i + m)).take 8) = sumFrom (sumSeed (i : Int)) (((mapRow (runVal bb pos len) z).drop i).take m) → False := by
  intro m x hx hbx hm hmz hpat hs
  rw [mapRow_part hmz, mapRow_part (by omega), mapRow_congr (g := pat e x) (fun t _ => gp x hbx t), leN_zero _ (fun t _ => by
   rw [Nat.add_assoc, gp x hbx]; unfold pat; rw [if_neg (by omega)])] at hs
  exact patSum hx (by omega) hpat hs.symm
 obtain rfl | rfl | rfl : e = 20 ∨ e = 21 ∨ e = 22 := by omega
 ·rw [if_neg (by omega)] at g20 g21
  rw [g19, g20, g21, g22, g23, g24, c1] at hS hV
  exact fin 132 _ x1 rfl (by omega) (by omega) (pat20 _ x1) hS
 ·rw [if_pos (by omega)] at g20
  rw [if_neg (by omega)] at g21
  have hx0 : bb ((a + 2) % 3) = 0 := by omega
  rw [g19, g20, g21, g22, g23, g24, c1, hx0] at hS hV
  exact fin 132 0 (by omega) hx0 (by omega) (by omega) pat21 hS
 ·rw [if_pos (by omega)] at g20 g21
  have hx0 : bb ((a + 2) % 3) = 0 := by omega
  rw [g19, g20, g21, g22, g23, g24, c1, c0, hx0] at hS hV
  exact fin 231 0 (by omega) hx0 (by omega) (by omega) pat22 hS
theorem noMark_run {bb : Nat → Nat} {pos len z i : Nat} (hi : i + 3 < z) : noMark (mapRow (runVal bb pos len) z) i = true := by
 unfold noMark
 rw [mapRow_byte (by omega), mapRow_byte (by omega), mapRow_byte (by omega), mapRow_byte (by omega)]
 rw [Bool.not_eq_true', ← Bool.not_eq_true]
 intro h
 simp only [Bool.and_eq_true, decide_eq_true_eq] at h
 obtain ⟨⟨⟨h0, h1⟩, h2⟩, h3⟩ := h
 unfold runVal at h0 h3
 split at h0
 ·split at h3
  ·rw [show (i + 3 - pos) % 3 = (i - pos) % 3 by omega] at h3
   omega
  ·exact absurd h3 (by decide)
 ·exact absurd h0 (by decide)
end Go.Xe
