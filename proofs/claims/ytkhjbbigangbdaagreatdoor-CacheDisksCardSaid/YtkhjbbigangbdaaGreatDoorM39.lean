/- A part of the proof. -/
import Derived.Test.YtkhjbbigangbdaaGreatDoorM38
set_option linter.all false
namespace Go.Xe
open Go Go.Proofs
theorem alA (g0 g1 : Ent) : ycode Tryz.prog okN ycN (kp 8) 100 (seqs [(sub (codeOf Tryz.prog 8) [0]), (sub (codeOf Tryz.prog 8) [1,0])]) (startX Tryz.f8 []) (tri g0 g1 Option.none Option.none [] 4) (bits 5 3) = (let x0 := some (Ent.row (zerosL [Value.int .u8 0] 4096) 1 false); some (true, ((XE.normal, (slA [(1, Value.pointer (ad 12)), (2, Value.int .i64 0)]), ⟨(.node (.node (le (ln x0)) (some g1) (ln x0)) (some g0) (ch 2 2 (lr [Value.slice (ad 5) 4096 4096, Value.slice (ad 7) 4096 4096, Value.slice none 0 0, Value.int .i64 (-1), Value.bool false] 0 false))), 13, 1⟩), []))) := by kernel_rfl
theorem alB (cs ls : List Value) (g0 g1 : Ent) : ycode Tryz.prog okN ycN (kp 8) 100 (seqs [(sub (codeOf Tryz.prog 8) [1,1,0]), (sub (codeOf Tryz.prog 8) [1,1,1,0])]) (slA [(1, .pointer (ad 12)), (2, .int .i64 0)]) (tri g0 g1 Option.none Option.none [(5, byteRow cs), (7, byteRow ls), (12, diskAt 5 7 4096)] 13) (bits 9 51) = (some (decide (12 ≠ 5 ∧ 12 ≠ 7 ∧ 5 ≠ 7 ∧ 7 < 13) && (decide (List.length cs = 4096) && (List.all cs isByte && (noMark cs 4032 && (noMark cs 4064 && (noRecs cs 4032 0 && true))))) && true && true && true && true, ((XE.normal, (slA [(1, Value.pointer (ad 12)), (3, Value.pointer (ad 14)), (36, Value.bool false)]), ⟨(.node (.node (le (lr ls 1 false)) (some g1) (.node .leaf (some (Ent.row cs 1 false)) (ln (some (Ent.map [] 0 false))))) (some g0) (nd (ri (lr [Value.slice (ad 5) 4096 4096, Value.slice (ad 7) 4096 4096, Value.slice none 0 0, Value.int .i64 (-1), Value.bool false] 0 false)) (ri (lr [Value.pointer (ad 12), Value.int .i64 4032, Value.int .u64 0, Value.int .i64 0, Value.slice none 0 0, Value.map (some 13), Value.int .u64 1, Value.int .i64 0, Value.int .i64 0, Value.bool false] 0 false)))), 15, 1⟩), []))) := by kernel_rfl
theorem alC (cs ls : List Value) (g0 g1 : Ent) : ycode Tryz.prog okN ycN (kp 8) 100 (seqs [(sub (codeOf Tryz.prog 8) [1,1,1,1,0]), (sub (codeOf Tryz.prog 8) [1,1,1,1,1,0])]) (slA [(1, .pointer (ad 12)), (3, .pointer (ad 14)), (36, .bool false)]) (tri g0 g1 Option.none Option.none [(5, byteRow cs), (7, byteRow ls), (12, diskAt 5 7 4096), (13, .map [] 0 false), (14, cacheAt 12 13 4032 (.slice Option.none 0 0) 1 0)] 15) (bits 115 322061938426708384722447830679103) = (let x0 := List.drop 0 (imgRow 0 1 1 (OfNat.ofNat 97) (List.take 3 (splice (splice (splice (zerosL [Value.int .u8 0] 3) 0 [Value.int .u8 111]) 1 [Value.int .u8 110]) 2 [Value.int .u8 101]))); let x1 := [Value.int .i64 0, Value.int .i64 37, Value.int .u64 1, Value.string { data := #[OfNat.ofNat 97] : ByteArray }, Value.int .i64 3, Value.bool false]; let x3 := ch 3 6 (lr [Value.int .i64 0, Value.slice (ad 113) 37 37] 2 false); let x4 := splice cs 0 (List.take 37 x0); let x2 := List.take 4096 (List.drop 0 x4); let x5 := some (Ent.row x1 6 false); some (decide (37 ≤ List.length cs) && true && true && true && true && true && true && true && true && true && true && true && true && true && true && true && true && true && true && true && true && true && (decide (4096 ≤ List.length x4) && true && (decide (0 + List.length x2 ≤ List.length ls) && (List.all x2 one && true) && true) && true && true && true && true && true && true && true && true && true && true && true && true && true && true), ((XE.normal, (slA [(1, Value.pointer (ad 12)), (3, Value.pointer (ad 14)), (5, Value.int .i64 0), (6, Value.int .i64 0)]), ⟨(.node (.node (nd (.node (lr [Value.int .u8 111, Value.int .u8 110, Value.int .u8 101] 1 false) (some (Ent.row (splice ls 0 x2) 1 false)) .leaf) x3) (some g1) (.node (le (nd (nd (le (ln x5)) (lr (imgRow 0 1 1 (OfNat.ofNat 97) (List.take 3 (splice (splice (splice (zerosL [Value.int .u8 0] 3) 0 [Value.int .u8 111]) 1 [Value.int .u8 110]) 2 [Value.int .u8 101]))) 1 false)) (ri (lr (List.take 0 (List.drop 0 (zerosL [Value.int .u8 0] 0)) ++ List.take 37 x0) 1 false)))) (some (Ent.row x4 1 false)) (ln (some (Ent.map [{ key := Value.string { data := #[OfNat.ofNat 97] : ByteArray }, val := Value.agg { toList := x1 : Array Value }, born := 0 : MapEntry }] 1 false))))) (some g0) (nd (nd (le (nd (ch 2 0 (ln x5)) (ri (l0)))) (.node (ch 2 3 (lr x1 0 false)) (some (Ent.row [Value.slice (ad 5) 4096 4096, Value.slice (ad 7) 4096 4096, Value.slice none 0 0, Value.int .i64 (-1), Value.bool false] 0 false)) .leaf)) (nd x3 (lr [Value.pointer (ad 12), Value.int .i64 4032, Value.int .u64 0, Value.int .i64 0, Value.slice (ad 129) 1 1, Value.map (some 13), Value.int .u64 2, Value.int .i64 37, Value.int .i64 0, Value.bool false] 0 false)))), 146, 1⟩), []))) := by kernel_rfl
theorem alD (cs ls : List Value) (g0 g1 : Ent) : ycode Tryz.prog okN ycN (kp 8) 100 (sub (codeOf Tryz.prog 8) [1,1,1,1,1,1,0]) (slA [(1, .pointer (ad 12)), (3, .pointer (ad 14)), (5, .int .i64 0), (6, .int .i64 0)]) (tri g0 g1 Option.none Option.none [(5, byteRow cs), (7, byteRow ls), (12, diskAt 5 7 4096), (13, .map [⟨.string ⟨#[97]⟩, .agg (recCells 97 3).toArray, 0⟩] 1 false), (14, cacheAt 12 13 4032 (.slice (ad 129) 1 1) 2 37), (129, .row (recCells 97 3) 6 false)] 130) (bits 91 1257301727996304445073849919) = (let x0 := [Value.int .i64 37, Value.int .i64 37, Value.int .u64 2, Value.string { data := #[OfNat.ofNat 97] : ByteArray }, Value.int .i64 3, Value.bool false]; let x1 := List.take 3 (splice (splice (splice (zerosL [Value.int .u8 0] 3) 0 [Value.int .u8 116]) 1 [Value.int .u8 119]) 2 [Value.int .u8 111]); let x2 := [Value.int .i64 0, Value.int .i64 0, Value.int .u64 0, Value.string { data := #[] : ByteArray }, Value.int .i64 0, Value.bool false]; let x3 := ch 3 6 (lr [Value.int .i64 37, Value.slice (ad 229) 37 37] 2 false); let x4 := List.drop 0 (imgRow 37 2 1 (OfNat.ofNat 97) x1); some (decide (74 ≤ List.length cs) && true && true && true && true && true && true && true && true && true && true && true && true && true && true && true && true && true && true && true && true && true, ((XE.normal, (slA [(1, Value.pointer (ad 12)), (3, Value.pointer (ad 14)), (5, Value.int .i64 0), (6, Value.int .i64 0), (7, Value.int .i64 0)]), ⟨(.node (.node (nd (.node .leaf (some (Ent.row ls 1 false)) x3) (ch 4 0 (lr [Value.int .i64 0, Value.int .i64 37, Value.int .u64 1, Value.string { data := #[OfNat.ofNat 97] : ByteArray }, Value.int .i64 3, Value.bool false] 0 false))) (some g1) (.node (ch 4 0 (l0)) (some (Ent.row (splice cs 37 (List.take 37 x4)) 1 false)) (.node (nd (ch 2 3 (lr (List.take 0 (List.drop 0 (zerosL [Value.int .u8 0] 0)) ++ List.take 37 x4) 1 false)) (nd (ri (lr (imgRow 37 2 1 (OfNat.ofNat 97) x1) 1 false)) (ri (lr (List.take 6 (List.drop 0 (recCells (OfNat.ofNat 97) 3)) ++ List.take 6 (List.drop 0 (splice (zerosL x2 1) 0 (List.take 6 (List.drop 0 (splice x2 0 (splice (splice (splice (splice (splice (splice x2 0 [Value.int .i64 37]) 1 [Value.int .i64 37]) 2 [Value.int .u64 2]) 3 [Value.string { data := #[OfNat.ofNat 97] : ByteArray }]) 4 [Value.int .i64 3]) 5 [Value.bool false]))))))) 6 false)))) (some (Ent.map [{ key := Value.string { data := #[OfNat.ofNat 97] : ByteArray }, val := Value.agg { toList := x0 : Array Value }, born := 1 : MapEntry }] 2 false)) .leaf))) (some g0) (nd (nd (ch 4 13 (lr x0 0 false)) (.node (nd (ch 2 3 (l0)) (ch 2 3 (lr x0 6 false))) (some (Ent.row [Value.slice (ad 5) 4096 4096, Value.slice (ad 7) 4096 4096, Value.slice (ad 231) 1 1, Value.int .i64 (-1), Value.bool false] 0 false)) .leaf)) (nd (ch 4 0 (lr [Value.int .u8 116, Value.int .u8 119, Value.int .u8 111] 1 false)) (.node x3 (some (Ent.row [Value.pointer (ad 12), Value.int .i64 4032, Value.int .u64 0, Value.int .i64 0, Value.slice (ad 245) 2 2, Value.map (some 13), Value.int .u64 3, Value.int .i64 74, Value.int .i64 0, Value.bool false] 0 false)) .leaf)))), 253, 1⟩), []))) := by kernel_rfl
theorem alE (cs ls : List Value) (g0 g1 : Ent) : ycode Tryz.prog okN ycN (kp 8) 100 (sub (codeOf Tryz.prog 8) [1,1,1,1,1,1,1,0]) (slA [(1, .pointer (ad 12)), (3, .pointer (ad 14)), (5, .int .i64 0), (6, .int .i64 0), (7, .int .i64 0)]) (tri g0 g1 Option.none Option.none [(5, byteRow cs), (7, byteRow ls), (12, .row [.slice (ad 5) 4096 4096, .slice (ad 7) 4096 4096, .slice (ad 231) 1 1, .int .i64 (-1), .bool false] 0 false), (13, .map [⟨.string ⟨#[97]⟩, .agg #[.int .i64 37, .int .i64 37, .int .u64 2, .string ⟨#[97]⟩, .int .i64 3, .bool false], 1⟩] 2 false), (14, cacheAt 12 13 4032 (.slice (ad 245) 2 2) 3 74), (231, .row [.int .i64 37, .slice (ad 229) 37 37] 2 false)] 246) (bits 71 276737133819512028735) = (let x2 := List.take (0 : Nat) (List.drop (0 : Nat) (zerosL [Value.int .u8 (0 : Int)] (0 : Nat))) ++ List.take (37 : Nat) (List.drop (37 : Nat) cs); let x4 := [Value.int .i64 (37 : Int), Value.int .i64 (37 : Int), Value.int .u64 (2 : Int), Value.string { data := #[OfNat.ofNat (97 : Nat)] : ByteArray }, Value.int .i64 (3 : Int), Value.bool false]; let x7 := List.take (37 : Nat) (List.drop (0 : Nat) x2); let x0 := splice (zerosL [Value.int .u8 (0 : Int)] (74 : Nat)) (37 : Nat) x7; let x1 := Value.int .u64 (if isRec x0 (74 : Nat) (37 : Nat) = true then getFrom (0 : Int) (0 : Nat) (List.take (8 : Nat) (List.drop (48 : Nat) x0)) else (0 : Int)); let x3 := Value.bool (isRec x0 (74 : Nat) (37 : Nat)); let x5 := bytesOf (List.take (rdK x0 (37 : Nat)) (List.drop (62 : Nat) x0)); let x6 := (↑((33 : Nat) + rdK x0 (37 : Nat) + rdV x0 (37 : Nat)) : Int); let x8 := List.take (8 : Nat) (List.drop (40 : Nat) x0); let x9 := decide (byteN x0 (39 : Nat) = (1 : Int)); some (decide ((74 : Nat) ≤ List.length cs) && true && (List.all x2 one && true && true) && true && true && true && true && true && true && true && true && true && true && true && true && true && true && (decide ((37 : Nat) ≤ List.length x2) && true && (decide ((37 : Nat) + List.length x7 ≤ (74 : Nat)) && (List.all x7 one && true) && true) && true && true && true && (decide ((74 : Nat) ≤ List.length x0) && (List.all x0 isByte && true) && true && true && true) && (same (readV' x0 (37 : Nat) (isRec x0 (74 : Nat) (37 : Nat))) (readV' x0 (37 : Nat) (isRec x0 (74 : Nat) (37 : Nat))) && true && (same (recOf x0 (37 : Nat) (isRec x0 (74 : Nat) (37 : Nat))) (recOf x0 (37 : Nat) (isRec x0 (74 : Nat) (37 : Nat))) && true && (same x1 x1 && (same x1 x1 && true) && (same x3 x3 && (same x3 x3 && true) && (same x1 x1 && true && (same x3 x3 && true && true))))) && true) && true && (!!isRec x0 (74 : Nat) (37 : Nat) && true && (!!isRec x0 (74 : Nat) (37 : Nat) && true && (!!isRec x0 (74 : Nat) (37 : Nat) && true && (!!isRec x0 (74 : Nat) (37 : Nat) && true && true && true))) && true && (!!(decide ((if isRec x0 (74 : Nat) (37 : Nat) = true then (37 : Int) else (0 : Int)) = (37 : Int)) && (decide ((if isRec x0 (74 : Nat) (37 : Nat) = true then x6 else (0 : Int)) = (37 : Int)) && (decide ((if isRec x0 (74 : Nat) (37 : Nat) = true then getFrom (0 : Int) (0 : Nat) x8 else (0 : Int)) = (2 : Int)) && (beqBytes (Array.toList (ByteArray.data (if isRec x0 (74 : Nat) (37 : Nat) = true then { data := List.toArray x5 : ByteArray } else { data := #[] : ByteArray }))) [OfNat.ofNat (97 : Nat)] && (decide ((if isRec x0 (74 : Nat) (37 : Nat) = true then (↑(rdV x0 (37 : Nat)) : Int) else (0 : Int)) = (3 : Int)) && ((isRec x0 (74 : Nat) (37 : Nat) && x9) == false && true)))))) && true) && true)) && true && true && true, ((XE.normal, (slA [(1, Value.pointer (some ⟨(12 : Nat), (0 : Nat), none⟩)), (5, Value.int .i64 (0 : Int)), (6, Value.int .i64 (0 : Int)), (7, Value.int .i64 (0 : Int)), (8, Value.slice (some ⟨(262 : Nat), (26 : Nat), none⟩) (3 : Nat) (11 : Nat)), (9, Value.int .i64 (0 : Int))]), ⟨(.node (.node (le (.node .leaf (some (Ent.row ls (1 : Nat) false)) (le (nd (ch 2 0 (ln (some (Ent.row x0 (1 : Nat) false)))) (ri (ln (some (Ent.row [Value.int .i64 (37 : Int), Value.slice (some ⟨(229 : Nat), (0 : Nat), none⟩) (37 : Nat) (37 : Nat)] (2 : Nat) false)))))))) (some g1) (.node .leaf (some (Ent.row cs (1 : Nat) false)) (.node (ch 4 0 (l0)) (some (Ent.map [{ key := Value.string { data := #[OfNat.ofNat (97 : Nat)] : ByteArray }, val := Value.agg { toList := x4 : Array Value }, born := (1 : Nat) : MapEntry }] (2 : Nat) false)) .leaf))) (some g0) (nd (ri (ln (some (Ent.row [Value.slice (some ⟨(5 : Nat), (0 : Nat), none⟩) (4096 : Nat) (4096 : Nat), Value.slice (some ⟨(7 : Nat), (0 : Nat), none⟩) (4096 : Nat) (4096 : Nat), Value.slice (some ⟨(231 : Nat), (0 : Nat), none⟩) (1 : Nat) (1 : Nat), Value.int .i64 (-1 : Int), Value.bool false] (0 : Nat) false)))) (nd (ch 5 2 (ln (some (Ent.row [Value.int .i64 (if isRec x0 (74 : Nat) (37 : Nat) = true then (37 : Int) else (0 : Int)), Value.int .i64 (if isRec x0 (74 : Nat) (37 : Nat) = true then x6 else (0 : Int)), Value.int .u64 (if isRec x0 (74 : Nat) (37 : Nat) = true then getFrom (0 : Int) (0 : Nat) x8 else (0 : Int)), Value.string (if isRec x0 (74 : Nat) (37 : Nat) = true then { data := List.toArray x5 : ByteArray } else { data := #[] : ByteArray }), Value.int .i64 (if isRec x0 (74 : Nat) (37 : Nat) = true then (↑(rdV x0 (37 : Nat)) : Int) else (0 : Int)), Value.bool (isRec x0 (74 : Nat) (37 : Nat) && x9)] (0 : Nat) false)))) (.node (nd (ch 3 0 (ln (some (Ent.row x2 (1 : Nat) false)))) (ch 2 3 (ln (some (Ent.row x4 (0 : Nat) false))))) (some (Ent.row [Value.pointer (some ⟨(12 : Nat), (0 : Nat), none⟩), Value.int .i64 (4032 : Int), Value.int .u64 (0 : Int), Value.int .i64 (0 : Int), Value.slice (some ⟨(245 : Nat), (0 : Nat), none⟩) (2 : Nat) (2 : Nat), Value.map (some (13 : Nat)), Value.int .u64 (3 : Int), Value.int .i64 (74 : Int), Value.int .i64 (0 : Int), Value.bool false] (0 : Nat) false)) .leaf)))), (328 : Nat), (1 : Nat)⟩), []))) := by kernel_rfl
theorem alF (cs ls us : List Value) (g0 g1 : Ent) : ycode Tryz.prog okN ycN (kp 8) 100 (sub (codeOf Tryz.prog 8) [1,1,1,1,1,1,1,1,0]) (slA [(1, .pointer (ad 12)), (5, .int .i64 0), (6, .int .i64 0), (7, .int .i64 0), (8, .slice (some ⟨262, 26, none⟩) 3 11), (9, .int .i64 0)]) (tri g0 g1 Option.none Option.none [(5, byteRow cs), (7, byteRow ls), (12, .row [.slice (ad 5) 4096 4096, .slice (ad 7) 4096 4096, .slice (ad 231) 1 1, .int .i64 (-1), .bool false] 0 false), (231, .row [.int .i64 37, .slice (ad 229) 37 37] 2 false), (262, byteRow us)] 263) (bits 21 639) = (let x0 := List.take 4096 (List.drop 0 ls); let x1 := [Value.int .i64 37, Value.slice (ad 229) 37 37]; some (decide (4096 ≤ List.length ls) && true && (decide (0 + List.length x0 ≤ List.length cs) && (List.all x0 one && true) && true) && true && true && true && true && true && true && true && true && true && true, ((XE.normal, (slA [(1, Value.pointer (ad 12)), (5, Value.int .i64 0), (6, Value.int .i64 0), (7, Value.int .i64 0), (8, Value.slice (some ⟨262, 26, none⟩) 3 11), (9, Value.int .i64 0), (10, Value.int .i64 0)]), ⟨(.node (.node (le (.node .leaf (some (Ent.row ls 1 false)) (le (nd (ch 2 0 (lr x1 0 false)) (ri (lr x1 2 false)))))) (some g1) (lr (splice cs 0 x0) 1 false)) (some g0) (nd (ri (lr [Value.slice (ad 5) 4096 4096, Value.slice (ad 7) 4096 4096, Value.slice none 0 0, Value.int .i64 (-1), Value.bool true] 0 false)) (ch 6 1 (lr us 1 false)))), 273, 1⟩), []))) := by kernel_rfl
theorem alG (cs ls us : List Value) (g0 g1 : Ent) : ycode Tryz.prog okN ycN (kp 8) 100 (sub (codeOf Tryz.prog 8) [1,1,1,1,1,1,1,1,1,0]) (slA [(1, .pointer (ad 12)), (5, .int .i64 0), (6, .int .i64 0), (7, .int .i64 0), (8, .slice (some ⟨262, 26, none⟩) 3 11), (9, .int .i64 0), (10, .int .i64 0)]) (tri g0 g1 Option.none Option.none [(5, byteRow cs), (7, byteRow ls), (12, .row [.slice (ad 5) 4096 4096, .slice (ad 7) 4096 4096, .slice Option.none 0 0, .int .i64 (-1), .bool true] 0 false), (262, byteRow us)] 263) (bits 11 127) = (let x0 := List.take 4096 (List.drop 0 ls); some (decide (4096 ≤ List.length ls) && true && (decide (0 + List.length x0 ≤ List.length cs) && (List.all x0 one && true) && true) && true && true && true && true && true && true && true && true && true && true, ((XE.normal, (slA [(1, Value.pointer (ad 12)), (5, Value.int .i64 0), (6, Value.int .i64 0), (7, Value.int .i64 0), (8, Value.slice (some ⟨262, 26, none⟩) 3 11), (9, Value.int .i64 0), (10, Value.int .i64 0), (11, Value.int .i64 0)]), ⟨(.node (.node (le (lr ls 1 false)) (some g1) (lr (splice cs 0 x0) 1 false)) (some g0) (nd (ri (lr [Value.slice (ad 5) 4096 4096, Value.slice (ad 7) 4096 4096, Value.slice none 0 0, Value.int .i64 (-1), Value.bool false] 0 false)) (ch 6 1 (lr us 1 false)))), 272, 1⟩), []))) := by kernel_rfl
theorem alH (cs ls us : List Value) (g0 g1 : Ent) : ycode Tryz.prog okN ycO97 (kp 8) 100 (seqs [(sub (codeOf Tryz.prog 8) [1,1,1,1,1,1,1,1,1,1,0]), (sub (codeOf Tryz.prog 8) [1,1,1,1,1,1,1,1,1,1,1,0])]) (slA [(1, .pointer (ad 12)), (5, .int .i64 0), (6, .int .i64 0), (7, .int .i64 0), (8, .slice (some ⟨262, 26, none⟩) 3 11), (9, .int .i64 0), (10, .int .i64 0), (11, .int .i64 0)]) (tri g0 g1 Option.none Option.none [(5, byteRow cs), (7, byteRow ls), (12, diskAt 5 7 4096), (262, byteRow us)] 263) [false] = (let x0 := [Value.int .i64 0, Value.int .i64 (↑(34 + rdV cs 0) : Int), Value.int .u64 1, Value.string { data := #[OfNat.ofNat 97] : ByteArray }, Value.int .i64 (↑(rdV cs 0) : Int), Value.bool false]; some (decide (12 ≠ 5 ∧ 12 ≠ 7 ∧ 5 ≠ 7 ∧ 7 < 263) && (decide (List.length cs = 4096) && (List.all cs isByte && (noMark cs 4032 && (noMark cs 4064 && (isOne cs 4032 (OfNat.ofNat 97) && (decide (34 + rdV cs 0 ≤ 4032) && (noRecs cs 4032 (34 + rdV cs 0) && true))))))) && true && true && true && true, ((XE.normal, (slA [(5, Value.int .i64 0), (6, Value.int .i64 0), (7, Value.int .i64 0), (8, Value.slice (some ⟨262, 26, none⟩) 3 11), (9, Value.int .i64 0), (10, Value.int .i64 0), (11, Value.int .i64 0), (12, Value.pointer (ad 264)), (13, Value.int .i64 0), (62, Value.bool false)]), ⟨(.node (.node (le (.node .leaf (some (Ent.row ls 1 false)) (ch 4 0 (ln (some (Ent.map [{ key := Value.string { data := #[OfNat.ofNat 97] : ByteArray }, val := Value.agg { toList := x0 : Array Value }, born := 0 : MapEntry }] 1 false)))))) (some g1) (lr cs 1 false)) (some g0) (nd (nd (ri (nd (ch 3 0 (lr [Value.pointer (ad 12), Value.int .i64 4032, Value.int .u64 0, Value.int .i64 0, Value.slice (ad 504) 1 1, Value.map (some 263), Value.int .u64 2, Value.int .i64 (↑(34 + rdV cs 0) : Int), Value.int .i64 0, Value.bool false] 0 false)) (ch 3 7 (lr x0 6 false)))) (lr [Value.slice (ad 5) 4096 4096, Value.slice (ad 7) 4096 4096, Value.slice none 0 0, Value.int .i64 (-1), Value.bool false] 0 false)) (ch 6 1 (lr us 1 false)))), 505, 1⟩), []))) := by kernel_rfl
theorem alJ (cs us : List Value) (g0 g1 : Ent) : ycode Tryz.prog okN ycN (kp 8) 100 (sub (codeOf Tryz.prog 8) [1,1,1,1,1,1,1,1,1,1,1,1,0]) (slA [(5, .int .i64 0), (6, .int .i64 0), (7, .int .i64 0), (8, .slice (some ⟨262, 26, none⟩) 3 11), (9, .int .i64 0), (10, .int .i64 0), (11, .int .i64 0), (12, .pointer (ad 264)), (13, .int .i64 0), (62, .bool false)]) (tri g0 g1 Option.none Option.none [(5, byteRow cs), (12, diskAt 5 7 4096), (262, byteRow us), (263, .map [⟨.string ⟨#[97]⟩, .agg (recCells 97 3).toArray, 0⟩] 1 false), (264, cacheAt 12 263 4032 (.slice (ad 504) 1 1) 2 37)] 505) (bits 71 276737133819512028735) = (let x2 := List.take (0 : Nat) (List.drop (0 : Nat) (zerosL [Value.int .u8 (0 : Int)] (0 : Nat))) ++ List.take (37 : Nat) (List.drop (0 : Nat) cs); let x4 := [Value.int .i64 (0 : Int), Value.int .i64 (37 : Int), Value.int .u64 (1 : Int), Value.string { data := #[OfNat.ofNat (97 : Nat)] : ByteArray }, Value.int .i64 (3 : Int), Value.bool false]; let x7 := List.take (37 : Nat) (List.drop (0 : Nat) x2); let x0 := splice (zerosL [Value.int .u8 (0 : Int)] (37 : Nat)) (0 : Nat) x7; let x1 := Value.int .u64 (if isRec x0 (37 : Nat) (0 : Nat) = true then getFrom (0 : Int) (0 : Nat) (List.take (8 : Nat) (List.drop (11 : Nat) x0)) else (0 : Int)); let x3 := Value.bool (isRec x0 (37 : Nat) (0 : Nat)); let x5 := bytesOf (List.take (rdK x0 (0 : Nat)) (List.drop (25 : Nat) x0)); let x6 := (↑((33 : Nat) + rdK x0 (0 : Nat) + rdV x0 (0 : Nat)) : Int); let x8 := List.take (8 : Nat) (List.drop (3 : Nat) x0); let x9 := decide (byteN x0 (2 : Nat) = (1 : Int)); some (decide ((37 : Nat) ≤ List.length cs) && true && (List.all x2 one && true && true) && true && true && true && true && true && true && true && true && true && true && true && true && true && true && (decide ((37 : Nat) ≤ List.length x2) && true && (decide ((0 : Nat) + List.length x7 ≤ (37 : Nat)) && (List.all x7 one && true) && true) && true && true && true && (decide ((37 : Nat) ≤ List.length x0) && (List.all x0 isByte && true) && true && true && true) && (same (readV' x0 (0 : Nat) (isRec x0 (37 : Nat) (0 : Nat))) (readV' x0 (0 : Nat) (isRec x0 (37 : Nat) (0 : Nat))) && true && (same (recOf x0 (0 : Nat) (isRec x0 (37 : Nat) (0 : Nat))) (recOf x0 (0 : Nat) (isRec x0 (37 : Nat) (0 : Nat))) && true && (same x1 x1 && (same x1 x1 && true) && (same x3 x3 && (same x3 x3 && true) && (same x1 x1 && true && (same x3 x3 && true && true))))) && true) && true && (!!isRec x0 (37 : Nat) (0 : Nat) && true && (!!isRec x0 (37 : Nat) (0 : Nat) && true && (!!isRec x0 (37 : Nat) (0 : Nat) && true && (!!isRec x0 (37 : Nat) (0 : Nat) && true && true && true))) && true && (!!(decide ((if isRec x0 (37 : Nat) (0 : Nat) = true then (0 : Int) else (0 : Int)) = (0 : Int)) && (decide ((if isRec x0 (37 : Nat) (0 : Nat) = true then x6 else (0 : Int)) = (37 : Int)) && (decide ((if isRec x0 (37 : Nat) (0 : Nat) = true then getFrom (0 : Int) (0 : Nat) x8 else (0 : Int)) = (1 : Int)) && (beqBytes (Array.toList (ByteArray.data (if isRec x0 (37 : Nat) (0 : Nat) = true then { data := List.toArray x5 : ByteArray } else { data := #[] : ByteArray }))) [OfNat.ofNat (97 : Nat)] && (decide ((if isRec x0 (37 : Nat) (0 : Nat) = true then (↑(rdV x0 (0 : Nat)) : Int) else (0 : Int)) = (3 : Int)) && ((isRec x0 (37 : Nat) (0 : Nat) && x9) == false && true)))))) && true) && true)) && true && true && true, ((XE.normal, (slA [(5, Value.int .i64 (0 : Int)), (6, Value.int .i64 (0 : Int)), (7, Value.int .i64 (0 : Int)), (8, Value.slice (some ⟨(262 : Nat), (26 : Nat), none⟩) (3 : Nat) (11 : Nat)), (9, Value.int .i64 (0 : Int)), (10, Value.int .i64 (0 : Int)), (11, Value.int .i64 (0 : Int)), (12, Value.pointer (some ⟨(264 : Nat), (0 : Nat), none⟩)), (13, Value.int .i64 (0 : Int)), (14, Value.slice (some ⟨(521 : Nat), (26 : Nat), none⟩) (3 : Nat) (11 : Nat)), (15, Value.int .i64 (0 : Int))]), ⟨(.node (.node (ch 6 2 (ln (some (Ent.map [{ key := Value.string { data := #[OfNat.ofNat (97 : Nat)] : ByteArray }, val := Value.agg { toList := x4 : Array Value }, born := (0 : Nat) : MapEntry }] (1 : Nat) false)))) (some g1) (.node (ri (nd (ch 4 0 (ln (some (Ent.row x2 (1 : Nat) false)))) (ch 3 7 (ln (some (Ent.row x4 (0 : Nat) false)))))) (some (Ent.row cs (1 : Nat) false)) (ch 6 2 (ln (some (Ent.row [Value.int .i64 (if isRec x0 (37 : Nat) (0 : Nat) = true then (0 : Int) else (0 : Int)), Value.int .i64 (if isRec x0 (37 : Nat) (0 : Nat) = true then x6 else (0 : Int)), Value.int .u64 (if isRec x0 (37 : Nat) (0 : Nat) = true then getFrom (0 : Int) (0 : Nat) x8 else (0 : Int)), Value.string (if isRec x0 (37 : Nat) (0 : Nat) = true then { data := List.toArray x5 : ByteArray } else { data := #[] : ByteArray }), Value.int .i64 (if isRec x0 (37 : Nat) (0 : Nat) = true then (↑(rdV x0 (0 : Nat)) : Int) else (0 : Int)), Value.bool (isRec x0 (37 : Nat) (0 : Nat) && x9)] (0 : Nat) false)))))) (some g0) (nd (nd (ch 5 1 (.node (l0) (some (Ent.row [Value.pointer (some ⟨(12 : Nat), (0 : Nat), none⟩), Value.int .i64 (4032 : Int), Value.int .u64 (0 : Int), Value.int .i64 (0 : Int), Value.slice (some ⟨(504 : Nat), (0 : Nat), none⟩) (1 : Nat) (1 : Nat), Value.map (some (263 : Nat)), Value.int .u64 (2 : Int), Value.int .i64 (37 : Int), Value.int .i64 (0 : Int), Value.bool false] (0 : Nat) false)) .leaf)) (ln (some (Ent.row [Value.slice (some ⟨(5 : Nat), (0 : Nat), none⟩) (4096 : Nat) (4096 : Nat), Value.slice (some ⟨(7 : Nat), (0 : Nat), none⟩) (4096 : Nat) (4096 : Nat), Value.slice none (0 : Nat) (0 : Nat), Value.int .i64 (-1 : Int), Value.bool false] (0 : Nat) false)))) (nd (ch 6 1 (ln (some (Ent.row x0 (1 : Nat) false)))) (ch 5 0 (ln (some (Ent.row us (1 : Nat) false))))))), (587 : Nat), (1 : Nat)⟩), []))) := by kernel_rfl
theorem alK (us xs : List Value) (g0 g1 : Ent) : ycode Tryz.prog okN yc3 (kp 8) 100 (sub (codeOf Tryz.prog 8) [1,1,1,1,1,1,1,1,1,1,1,1,1,0]) (slA [(5, .int .i64 0), (6, .int .i64 0), (7, .int .i64 0), (8, .slice (some ⟨262, 26, none⟩) 3 11), (9, .int .i64 0), (10, .int .i64 0), (11, .int .i64 0), (12, .pointer (ad 264)), (13, .int .i64 0), (14, .slice (some ⟨521, 26, none⟩) 3 11), (15, .int .i64 0)]) (tri g0 g1 Option.none Option.none [(262, byteRow us), (263, .map [⟨.string ⟨#[97]⟩, .agg (recCells 97 3).toArray, 0⟩] 1 false), (264, cacheAt 12 263 4032 (.slice (ad 504) 1 1) 2 37), (521, byteRow xs)] 522) (bits 10 768) = (some (true, ((XE.normal, (slA [(5, Value.int .i64 0), (6, Value.int .i64 0), (7, Value.int .i64 0), (8, Value.slice (some ⟨262, 26, none⟩) 3 11), (9, Value.int .i64 0), (10, Value.int .i64 0), (11, Value.int .i64 0), (12, Value.pointer (ad 264)), (13, Value.int .i64 0), (14, Value.slice (some ⟨521, 26, none⟩) 3 11), (15, Value.int .i64 0), (17, Value.int .i64 1)]), ⟨(.node (.node (ch 6 2 (ln (some (Ent.map [{ key := Value.string { data := #[OfNat.ofNat 97] : ByteArray }, val := Value.agg { toList := [Value.int .i64 0, Value.int .i64 37, Value.int .u64 1, Value.string { data := #[OfNat.ofNat 97] : ByteArray }, Value.int .i64 3, Value.bool false] : Array Value }, born := 0 : MapEntry }] 1 false)))) (some g1) (ch 7 2 (lr xs 1 false))) (some g0) (nd (ch 6 2 (lr [Value.pointer (ad 12), Value.int .i64 4032, Value.int .u64 0, Value.int .i64 0, Value.slice (ad 504) 1 1, Value.map (some 263), Value.int .u64 2, Value.int .i64 37, Value.int .i64 0, Value.bool false] 0 false)) (ch 6 1 (lr us 1 false)))), 522, 1⟩), []))) := by kernel_rfl
theorem alL (us xs ws : List Value) : ycode Tryz.prog okN ycL (kp 8) 100 (sub (codeOf Tryz.prog 8) [1,1,1,1,1,1,1,1,1,1,1,1,1,1]) (slA [(5, .int .i64 0), (6, .int .i64 0), (7, .int .i64 0), (8, .slice (some ⟨262, 26, none⟩) 3 11), (9, .int .i64 0), (10, .int .i64 0), (11, .int .i64 0), (12, .pointer (ad 264)), (13, .int .i64 0), (14, .slice (some ⟨521, 26, none⟩) 3 11), (15, .int .i64 0), (17, .int .i64 1)]) (tri (.row [.slice (ad 1) 12 12] 0 true) (.row ws 1 true) Option.none Option.none [(262, byteRow us), (263, .map [⟨.string ⟨#[97]⟩, .agg (recCells 97 3).toArray, 0⟩] 1 false), (264, cacheAt 12 263 4032 (.slice (ad 504) 1 1) 2 37), (521, byteRow xs)] 522) (bits 76 35196946101177580992375) = (let x0 := List.take 3 (List.drop 26 us); let x1 := List.take 3 (List.drop 26 xs); some (decide (1 ≤ 1) && (sameL ws wordsL && true) && true && (decide (29 ≤ List.length us) && true && (List.all x0 (isInt IntKind.u8) && true) && true && true && (beqBytes (bytesOf x0) [OfNat.ofNat 116, OfNat.ofNat 119, OfNat.ofNat 111] && true && (beqBytes (bytesOf x0) [OfNat.ofNat 116, OfNat.ofNat 119, OfNat.ofNat 111] && true && (beqBytes (bytesOf x0) [OfNat.ofNat 116, OfNat.ofNat 119, OfNat.ofNat 111] && true && true && (decide (29 ≤ List.length xs) && true && (List.all x1 (isInt IntKind.u8) && true) && true && true && (beqBytes (bytesOf x1) [OfNat.ofNat 111, OfNat.ofNat 110, OfNat.ofNat 101] && true && (beqBytes (bytesOf x1) [OfNat.ofNat 111, OfNat.ofNat 110, OfNat.ofNat 101] && true && (beqBytes (bytesOf x1) [OfNat.ofNat 111, OfNat.ofNat 110, OfNat.ofNat 101] && true && true && true)))))))) && true && true, ((XE.ret, ([some (Value.bool true)] ++ nn 124), ⟨(.node (.node (nd (ch 5 1 (ln (some (Ent.map [{ key := Value.string { data := #[OfNat.ofNat 97] : ByteArray }, val := Value.agg { toList := [Value.int .i64 0, Value.int .i64 37, Value.int .u64 1, Value.string { data := #[OfNat.ofNat 97] : ByteArray }, Value.int .i64 3, Value.bool false] : Array Value }, born := 0 : MapEntry }] 1 false)))) (ch 6 1 (lr [Value.string { data := #[OfNat.ofNat 97] : ByteArray }] 1 false))) (some (Ent.row ws 1 true)) (ch 7 2 (lr xs 1 false))) (some (Ent.row [Value.slice (ad 1) 12 12] 0 true)) (nd (ch 6 2 (lr [Value.pointer (ad 12), Value.int .i64 4032, Value.int .u64 0, Value.int .i64 0, Value.slice (ad 504) 1 1, Value.map (some 263), Value.int .u64 2, Value.int .i64 37, Value.int .i64 0, Value.bool false] 0 false)) (nd (ch 6 1 (lr [Value.map (some 263)] 0 false)) (ch 5 0 (lr us 1 false))))), 524, 1⟩), []))) := by kernel_rfl
theorem slA_sl : (List.replicate (Tryz.f8.ntmps) (none : Option Value)) = List.replicate 125 none := by kernel_rfl
theorem slot_slA (l : List (Nat × Value)) {i : Nat} {v : Value} (h : slot (slA l) i = some v) : (i, v) ∈ l := by
 unfold slA at h
 rw [slA_sl] at h
 have key : ∀ (l : List (Nat × Value)) (a : XAct), slot (l.foldl (fun a p => a.set p.1 (some p.2)) a) i = some v → slot a i = some v ∨ (i, v) ∈ l := by
  intro l
  induction l with
  | nil => intro a h; exact .inl h
  | cons p r ih =>
   intro a h
   rcases ih (a.set p.1 (some p.2)) h with h1 | h1
   ·rw [slot_set] at h1
    split at h1
    ·rename_i hi; cases h1; exact .inr (by simp [← hi.1])
    ·exact .inl h1
   ·exact .inr (by simp [h1])
 rcases key l _ h with h1 | h1
 ·exfalso
  unfold slot at h1
  rw [List.getElem?_replicate] at h1
  split at h1
  ·rename_i x hx
   split at hx
   ·cases hx; cases h1
   ·cases hx
  ·cases h1
 ·exact h1
theorem slA_low {l : List (Nat × Value)} {m : Nat} (h : l.all (fun p => low m p.2) = true) : ∀ i v, slot (slA l) i = some v → ∀ π, Keeps m π → RenV π v v :=
 fun i v hv π hk => low_ren hk (List.all_eq_true.1 h (i, v) (slot_slA l hv))
def EndsA (c : Code) (a : XAct) (S : St) : Prop := ∃ a' S', SR Tryz.prog c a S .ret a' S' ∧ xres Tryz.prog Tryz.f8 a' S' = some (.bool true)
theorem EndsA.more {call : XCall} {fg : Nat → Option Nat} {l : List Code} {z : Code} {a a1 b : XAct} {S S1 T : St} (hC : CallSound Tryz.prog call) (hl : l ≠ []) (hg : goodCode (seqs l) = true)
 (h : Runs Tryz.prog okN call fg (seqs l) a S .normal a1 S1) (mv : Moves S a1 S1 b T) (h' : EndsA z b T) : EndsA (appL l z) a S := by
 obtain ⟨a', S', h1, h2⟩ := h'
 exact ⟨a', S', SR.partsM mixed okN_ok hC hl hg h mv h1, h2⟩
theorem EndsA.one {call : XCall} {fg : Nat → Option Nat} {c z : Code} {a a1 b : XAct} {S S1 T : St} (hC : CallSound Tryz.prog call) (hg : goodCode c = true)
 (h : Runs Tryz.prog okN call fg c a S .normal a1 S1) (mv : Moves S a1 S1 b T) (h' : EndsA z b T) : EndsA (.seq c z) a S :=
 EndsA.more (l := [c]) (z := z) hC (List.cons_ne_nil _ _) hg h mv h'
noncomputable abbrev aL : Code := sub (codeOf Tryz.prog 8) [1, 1, 1, 1, 1, 1, 1, 1, 1, 1, 1, 1, 1, 1]
noncomputable abbrev aK : Code := sub (codeOf Tryz.prog 8) [1, 1, 1, 1, 1, 1, 1, 1, 1, 1, 1, 1, 1, 0]
noncomputable abbrev aJ : Code := sub (codeOf Tryz.prog 8) [1, 1, 1, 1, 1, 1, 1, 1, 1, 1, 1, 1, 0]
noncomputable abbrev aH : List Code := [sub (codeOf Tryz.prog 8) [1, 1, 1, 1, 1, 1, 1, 1, 1, 1, 0], sub (codeOf Tryz.prog 8) [1, 1, 1, 1, 1, 1, 1, 1, 1, 1, 1, 0]]
noncomputable abbrev aG : Code := sub (codeOf Tryz.prog 8) [1, 1, 1, 1, 1, 1, 1, 1, 1, 0]
noncomputable abbrev aF : Code := sub (codeOf Tryz.prog 8) [1, 1, 1, 1, 1, 1, 1, 1, 0]
noncomputable abbrev aE : Code := sub (codeOf Tryz.prog 8) [1, 1, 1, 1, 1, 1, 1, 0]
noncomputable abbrev aD : Code := sub (codeOf Tryz.prog 8) [1, 1, 1, 1, 1, 1, 0]
noncomputable abbrev aC : List Code := [sub (codeOf Tryz.prog 8) [1, 1, 1, 1, 0], sub (codeOf Tryz.prog 8) [1, 1, 1, 1, 1, 0]]
noncomputable abbrev aB : List Code := [sub (codeOf Tryz.prog 8) [1, 1, 0], sub (codeOf Tryz.prog 8) [1, 1, 1, 0]]
noncomputable abbrev aA : List Code := [sub (codeOf Tryz.prog 8) [0], sub (codeOf Tryz.prog 8) [1, 0]]
theorem good_aL : goodCode aL = true := by kernel_rfl
theorem good_aK : goodCode aK = true := by kernel_rfl
theorem good_aJ : goodCode aJ = true := by kernel_rfl
theorem good_aH : goodCode (seqs aH) = true := by kernel_rfl
theorem good_aG : goodCode aG = true := by kernel_rfl
theorem good_aF : goodCode aF = true := by kernel_rfl
theorem good_aE : goodCode aE = true := by kernel_rfl
theorem good_aD : goodCode aD = true := by kernel_rfl
theorem good_aC : goodCode (seqs aC) = true := by kernel_rfl
theorem good_aB : goodCode (seqs aB) = true := by kernel_rfl
theorem good_aA : goodCode (seqs aA) = true := by kernel_rfl
theorem code13 : codeOf Tryz.prog 8 = appL aA (appL aB (appL aC (.seq aD (.seq aE (.seq aF (.seq aG (appL aH (.seq aJ (.seq aK aL))))))))) := by kernel_rfl
theorem body13 : Tryz.f8.body = some (codeOf Tryz.prog 8) := by kernel_rfl
def oneL : List Value := [.int .u8 111, .int .u8 110, .int .u8 101]
def twoL : List Value := [.int .u8 116, .int .u8 119, .int .u8 111]
def cK2 : Ent := cacheAt 12 263 4032 (.slice (some ⟨504, 0, none⟩) 1 1) 2 37
def mK : Ent := .map [⟨.string ⟨#[97]⟩, .agg (recCells 97 3).toArray, 0⟩] 1 false
section
variable (hL : OrcSound Tryz.prog orcL) {ws us xs : List Value} (hs : sameL ws wordsL = true) (hw : ws.all plain1 = true)
 (hub : us.all isByte = true) (hul : 29 ≤ us.length) (hu : (us.drop 26).take 3 = twoL) (hxb : xs.all isByte = true) (hxl : 29 ≤ xs.length) (hx : (xs.drop 26).take 3 = oneL)
include hL hs hw hub hul hu hxb hxl hx
theorem endAL : EndsA aL (slA [(5, .int .i64 0), (6, .int .i64 0), (7, .int .i64 0), (8, .slice (some ⟨262, 26, none⟩) 3 11), (9, .int .i64 0), (10, .int .i64 0), (11, .int .i64 0), (12, .pointer (some ⟨264, 0, none⟩)), (13, .int .i64 0), (14, .slice (some ⟨521, 26, none⟩) 3 11), (15, .int .i64 0), (17, .int .i64 1)])
 (tri gW (gV ws) none none [(262, byteRow us), (263, mK), (264, cK2), (521, byteRow xs)] 522) := by
 have h := alL us xs ws
 have hc : CallSound Tryz.prog (xgoO Tryz.prog okN orcL kp 100) := xgoO_sound mixed okN_ok okN_good hL kp 100
 have hy : YX ycL (xgoO Tryz.prog okN orcL kp 100) := ygo_is orcL kp 100
 refine ⟨_, _, SR.of mixed okN_ok hc good_aL (Runs.path hy h ?_), by kernel_rfl⟩
 have b2 := bytes_ints (take_bytes hub 26 3)
 have b1 := bytes_ints (take_bytes hxb 26 3)
 rw [hu] at b2
 rw [hx] at b1
 rw [hs, hu, hx, b1, b2, decide_eq_true hul, decide_eq_true hxl]
 rfl
theorem endAK : EndsA (.seq aK aL) (slA [(5, .int .i64 0), (6, .int .i64 0), (7, .int .i64 0), (8, .slice (some ⟨262, 26, none⟩) 3 11), (9, .int .i64 0), (10, .int .i64 0), (11, .int .i64 0), (12, .pointer (some ⟨264, 0, none⟩)), (13, .int .i64 0), (14, .slice (some ⟨521, 26, none⟩) 3 11), (15, .int .i64 0)])
 (tri gW (gV ws) none none [(262, byteRow us), (263, mK), (264, cK2), (521, byteRow xs)] 522) := by
 have h := alK us xs gW (gV ws)
 refine EndsA.one (c := aK) (z := aL) (fg := kp 8) call3 good_aK (Runs.path yx3 h (by kernel_rfl)) (Moves.kept (m := 522) (Kept.tri (l := [(262, byteRow us), (263, mK), (264, cK2), (521, byteRow xs)]) (eb := none) (ev := none) hw (by kernel_rfl) (by kernel_rfl) (by simp) (by simp) (by intro e he; cases he) (by intro e he; cases he) (fun p hp => ?_) (by omega) (Nat.le_of_ble_eq_true rfl) rfl) (Nat.le_of_ble_eq_true rfl) (slA_low (by kernel_rfl))) (endAL hL hs hw hub hul hu hxb hxl hx)
 simp only [List.mem_cons, List.not_mem_nil, or_false] at hp
 rcases hp with rfl | rfl | rfl | rfl
 ·exact ⟨by kernel_rfl, Nat.le_of_ble_eq_true rfl, fun π hk => bytes_ren hub π⟩
 ·exact ⟨by kernel_rfl, Nat.le_of_ble_eq_true rfl, fun π hk => lowE_ren hk rfl⟩
 ·exact ⟨by kernel_rfl, Nat.le_of_ble_eq_true rfl, fun π hk => lowE_ren hk rfl⟩
 ·exact ⟨by kernel_rfl, Nat.le_of_ble_eq_true rfl, fun π hk => bytes_ren hxb π⟩
end
theorem okOrcO97 : OrcSound Tryz.prog orcO97 := fun f F h => by
 unfold orcO97 at h
 split at h
 ·cases h; rename_i hf; subst hf; exact openOneF_sound 97
 ·exact okOrc3 f F h
section
variable (hL : OrcSound Tryz.prog orcL) {ws us cs ls rest : List Value} (hs : sameL ws wordsL = true) (hw : ws.all plain1 = true)
 (hub : us.all isByte = true) (hul : 29 ≤ us.length) (hu : (us.drop 26).take 3 = twoL) (hcs : cs = imgRow 0 1 1 97 oneL ++ rest) (hr : rest.all isByte = true) (hz : cs.length = 4096)
include hL hs hw hub hul hu hcs hr hz
theorem endAJ : EndsA (.seq aJ (.seq aK aL)) (slA [(5, .int .i64 0), (6, .int .i64 0), (7, .int .i64 0), (8, .slice (some ⟨262, 26, none⟩) 3 11), (9, .int .i64 0), (10, .int .i64 0), (11, .int .i64 0), (12, .pointer (some ⟨264, 0, none⟩)), (13, .int .i64 0), (62, .bool false)])
 (tri gW (gV ws) none none [(5, byteRow cs), (12, diskAt 5 7 4096), (262, byteRow us), (263, mK), (264, cK2)] 505) := by
 have hvs : oneL.all isByte = true := rfl
 have hb : cs.all isByte = true := by rw [hcs, List.all_append, imgRow_bytes 0 1 1 97 hvs, hr]; rfl
 have hU : List.take 37 cs = imgRow 0 1 1 97 oneL := by rw [hcs]; exact List.take_left' (imgRow_length _ _ _ _ _)
 have hUb := imgRow_bytes 0 1 1 97 hvs
 have hUl : (imgRow 0 1 1 97 oneL).length = 37 := imgRow_length _ _ _ _ _
 have hrec : isRec (imgRow 0 1 1 97 oneL) 37 0 = true := by
  have := img_rec (c := 97) (rest := []) (l := 37) hvs (by decide) (by decide)
  rwa [List.append_nil] at this
 have hsp : splice (zerosL [Value.int IntKind.u8 0] 37) 0 (imgRow 0 1 1 97 oneL) = imgRow 0 1 1 97 oneL := by
  unfold splice
  rw [zerosL_rep, List.take_zero, List.nil_append, List.drop_eq_nil_of_le (by rw [List.length_replicate, hUl]; omega), List.append_nil]
 have hT : List.take 37 (imgRow 0 1 1 97 oneL) = imgRow 0 1 1 97 oneL := by rw [← hUl, List.take_length]
 have f1 : getFrom 0 0 (List.take 8 (List.drop 3 (imgRow 0 1 1 97 oneL))) = 1 := by
  have := img_num (c := 97) (vs := oneL) (rest := []); rwa [List.append_nil] at this
 have f3 : rdK (imgRow 0 1 1 97 oneL) 0 = 1 := by
  have := img_K (c := 97) (vs := oneL) (rest := []); rwa [List.append_nil] at this
 have f4 : rdV (imgRow 0 1 1 97 oneL) 0 = 3 := by
  have := img_V (c := 97) (vs := oneL) (rest := []) (by decide); rw [List.append_nil] at this; rw [this]; rfl
 have f5 : bytesOf (List.take 1 (List.drop 25 (imgRow 0 1 1 97 oneL))) = [97] := by
  have := img_name (c := 97) (vs := oneL) (rest := []); rwa [List.append_nil] at this
 have f6 : byteN (imgRow 0 1 1 97 oneL) 2 = 0 := by
  have := img_b2 (c := 97) (vs := oneL) (rest := []); rwa [List.append_nil] at this
 have f8 : (zerosL [Value.int .u8 0] 37).all one = true := by rw [zerosL_rep]; exact ones_bytes (rep_bytes _)
 have f9 : (zerosL [Value.int .u8 0] 37).length = 37 := by rw [zerosL_rep, List.length_replicate]
 have f10 : same (readV' (imgRow 0 1 1 97 oneL) 0 true) (readV' (imgRow 0 1 1 97 oneL) 0 true) = true := same_of (by kernel_rfl)
 have o1 : ∀ s, one (.string s) = true := fun _ => rfl
 have o2 : ∀ b, one (.bool b) = true := fun _ => rfl
 have h := alJ cs us gW (gV ws)
 simp only [Int.toNat_natCast, Nat.sub_zero, Nat.zero_add, Nat.mul_one, List.drop_zero, List.take_zero, List.nil_append, hU, hT, hsp, hrec, if_true, Bool.true_and] at h
 refine EndsA.one (c := aJ) (z := .seq aK aL) (fg := kp 8) callN good_aJ (Runs.path yxN h ?_) (Moves.kept (m := 522) (Kept.tri (l := [(262, byteRow us), (263, mK), (264, cK2), (521, byteRow (imgRow 0 1 1 97 oneL))]) (eb := none) (ev := none) hw (by kernel_rfl) (by kernel_rfl) (by simp) (by simp) (by intro e he; cases he) (by intro e he; cases he) (fun p hp => ?_) (by omega) (Nat.le_of_ble_eq_true rfl) rfl) (Nat.le_of_ble_eq_true rfl) (slA_low (by kernel_rfl))) (endAK hL hs hw hub hul hu hUb (by rw [hUl]; omega) rfl)
 ·simp only [f10]
  simp only [f1, f3, f4, f5, f6, f8, f9, o1, o2, hUl, hUb, ones_bytes hUb, hz, recOf, recCells, same, sameL, same1, sameM, sameA, beqBytes_self, decide_true, beq_self_eq_true, if_true, Bool.true_and, Bool.and_true, Bool.not_true, Bool.not_false, Bool.and_self, Nat.zero_add, List.length_cons, List.length_nil, List.all_cons, List.all_nil, oneInt,
   Bool.and_eq_true, decide_eq_true_eq, Bool.not_eq_true', decide_eq_false_iff_not, true_and, and_true]
  exact ⟨by omega, by omega, rfl⟩
 ·simp only [List.mem_cons, List.not_mem_nil, or_false] at hp
  rcases hp with rfl | rfl | rfl | rfl
  ·exact ⟨by kernel_rfl, Nat.le_of_ble_eq_true rfl, fun π hk => bytes_ren hub π⟩
  ·exact ⟨by kernel_rfl, Nat.le_of_ble_eq_true rfl, fun π hk => lowE_ren hk rfl⟩
  ·exact ⟨by kernel_rfl, Nat.le_of_ble_eq_true rfl, fun π hk => lowE_ren hk rfl⟩
  ·exact ⟨by kernel_rfl, Nat.le_of_ble_eq_true rfl, fun π hk => bytes_ren hUb π⟩
theorem endAH (hl : ls.all isByte = true) (hm1 : noMark cs 4032 = true) (hm2 : noMark cs 4064 = true) (hno : noRecs cs 4032 37 = true) :
 EndsA (appL aH (.seq aJ (.seq aK aL))) (slA [(1, .pointer (some ⟨12, 0, none⟩)), (5, .int .i64 0), (6, .int .i64 0), (7, .int .i64 0), (8, .slice (some ⟨262, 26, none⟩) 3 11), (9, .int .i64 0), (10, .int .i64 0), (11, .int .i64 0)])
  (tri gW (gV ws) none none [(5, byteRow cs), (7, byteRow ls), (12, diskAt 5 7 4096), (262, byteRow us)] 263) := by
 have hvs : oneL.all isByte = true := rfl
 have hb : cs.all isByte = true := by rw [hcs, List.all_append, imgRow_bytes 0 1 1 97 hvs, hr]; rfl
 have hV : rdV cs 0 = 3 := by rw [hcs, img_V (by decide)]; rfl
 have hone : isOne cs 4032 97 = true := by rw [hcs]; exact img_one hvs (by decide) (by decide)
 have h := alH cs ls us gW (gV ws)
 simp only [hV, Nat.reduceAdd] at h
 have hc : CallSound Tryz.prog (xgoO Tryz.prog okN orcO97 kp 100) := xgoO_sound mixed okN_ok okN_good okOrcO97 kp 100
 have hy : YX ycO97 (xgoO Tryz.prog okN orcO97 kp 100) := ygo_is orcO97 kp 100
 refine EndsA.more (l := aH) (z := .seq aJ (.seq aK aL)) (fg := kp 8) hc (List.cons_ne_nil _ _) good_aH (Runs.path hy h ?_) (Moves.kept (m := 505) (Kept.tri (l := [(5, byteRow cs), (12, diskAt 5 7 4096), (262, byteRow us), (263, mK), (264, cK2)]) (eb := none) (ev := none) hw (by kernel_rfl) (by kernel_rfl) (by simp) (by simp) (by intro e he; cases he) (by intro e he; cases he) (fun p hp => ?_) (by omega) (Nat.le_of_ble_eq_true rfl) rfl) (Nat.le_of_ble_eq_true rfl) (slA_low (by kernel_rfl))) (endAJ hL hs hw hub hul hu hcs hr hz)
 ·simp only [hone, hm1, hm2, hno, hb, hz, decide_true, Bool.true_and, Bool.and_true, Bool.not_true, Bool.not_false, Bool.and_self]
  rfl
 ·simp only [List.mem_cons, List.not_mem_nil, or_false] at hp
  rcases hp with rfl | rfl | rfl | rfl | rfl
  ·exact ⟨by kernel_rfl, Nat.le_of_ble_eq_true rfl, fun π hk => bytes_ren hb π⟩
  ·exact ⟨by kernel_rfl, Nat.le_of_ble_eq_true rfl, fun π hk => lowE_ren hk rfl⟩
  ·exact ⟨by kernel_rfl, Nat.le_of_ble_eq_true rfl, fun π hk => bytes_ren hub π⟩
  ·exact ⟨by kernel_rfl, Nat.le_of_ble_eq_true rfl, fun π hk => lowE_ren hk rfl⟩
  ·exact ⟨by kernel_rfl, Nat.le_of_ble_eq_true rfl, fun π hk => lowE_ren hk rfl⟩
end
abbrev diskW (w : Value) (off : Bool) : Ent := .row [.slice (some ⟨5, 0, none⟩) 4096 4096, .slice (some ⟨7, 0, none⟩) 4096 4096, w, .int .i64 (-1), .bool off] 0 false
theorem splice_full {cs ls : List Value} (h1 : cs.length = 4096) (h2 : ls.length = 4096) : splice cs 0 (List.take 4096 ls) = ls := by
 have : List.take 4096 ls = ls := List.take_of_length_le (by omega)
 rw [this]
 unfold splice
 rw [List.take_zero, List.nil_append, List.drop_eq_nil_of_le (by omega), List.append_nil]
section
variable (hL : OrcSound Tryz.prog orcL) {ws us cs ls rest : List Value} (hs : sameL ws wordsL = true) (hw : ws.all plain1 = true)
 (hub : us.all isByte = true) (hul : 29 ≤ us.length) (hu : (us.drop 26).take 3 = twoL) (hls : ls = imgRow 0 1 1 97 oneL ++ rest) (hr : rest.all isByte = true) (hz : ls.length = 4096)
 (hcb : cs.all isByte = true) (hcz : cs.length = 4096) (hm1 : noMark ls 4032 = true) (hm2 : noMark ls 4064 = true) (hno : noRecs ls 4032 37 = true)
include hL hs hw hub hul hu hls hr hz hcb hcz hm1 hm2 hno
theorem endAG : EndsA (.seq aG (appL aH (.seq aJ (.seq aK aL)))) (slA [(1, .pointer (some ⟨12, 0, none⟩)), (5, .int .i64 0), (6, .int .i64 0), (7, .int .i64 0), (8, .slice (some ⟨262, 26, none⟩) 3 11), (9, .int .i64 0), (10, .int .i64 0)])
 (tri gW (gV ws) none none [(5, byteRow cs), (7, byteRow ls), (12, diskW (.slice none 0 0) true), (262, byteRow us)] 263) := by
 have hlb : ls.all isByte = true := by rw [hls, List.all_append, imgRow_bytes 0 1 1 97 rfl, hr]; rfl
 have f9 : (List.take 4096 ls).length = 4096 := by rw [List.length_take]; omega
 have h := alG cs ls us gW (gV ws)
 simp only [List.drop_zero, splice_full hcz hz] at h
 refine EndsA.one (c := aG) (z := appL aH (.seq aJ (.seq aK aL))) (fg := kp 8) callN good_aG (Runs.path yxN h ?_) (Moves.kept (m := 263) (Kept.tri (l := [(5, byteRow ls), (7, byteRow ls), (12, diskAt 5 7 4096), (262, byteRow us)]) (eb := none) (ev := none) hw (by kernel_rfl) (by kernel_rfl) (by simp) (by simp) (by intro e he; cases he) (by intro e he; cases he) (fun p hp => ?_) (by omega) (Nat.le_of_ble_eq_true rfl) rfl) (Nat.le_of_ble_eq_true rfl) (slA_low (by kernel_rfl))) (endAH hL hs hw hub hul hu hls hr hz hlb hm1 hm2 hno)
 ·simp only [List.drop_zero, hcz, hz, hlb, ones_bytes hlb, List.take_of_length_le (show ls.length ≤ 4096 by omega), f9]
  kernel_rfl
 ·simp only [List.mem_cons, List.not_mem_nil, or_false] at hp
  rcases hp with rfl | rfl | rfl | rfl
  ·exact ⟨by kernel_rfl, Nat.le_of_ble_eq_true rfl, fun π hk => bytes_ren hlb π⟩
  ·exact ⟨by kernel_rfl, Nat.le_of_ble_eq_true rfl, fun π hk => bytes_ren hlb π⟩
  ·exact ⟨by kernel_rfl, Nat.le_of_ble_eq_true rfl, fun π hk => lowE_ren hk rfl⟩
  ·exact ⟨by kernel_rfl, Nat.le_of_ble_eq_true rfl, fun π hk => bytes_ren hub π⟩
theorem endAF : EndsA (.seq aF (.seq aG (appL aH (.seq aJ (.seq aK aL))))) (slA [(1, .pointer (some ⟨12, 0, none⟩)), (5, .int .i64 0), (6, .int .i64 0), (7, .int .i64 0), (8, .slice (some ⟨262, 26, none⟩) 3 11), (9, .int .i64 0)])
 (tri gW (gV ws) none none [(5, byteRow cs), (7, byteRow ls), (12, diskW (.slice (some ⟨231, 0, none⟩) 1 1) false), (231, .row [.int .i64 37, .slice (some ⟨229, 0, none⟩) 37 37] 2 false), (262, byteRow us)] 263) := by
 have hlb : ls.all isByte = true := by rw [hls, List.all_append, imgRow_bytes 0 1 1 97 rfl, hr]; rfl
 have f9 : (List.take 4096 ls).length = 4096 := by rw [List.length_take]; omega
 have h := alF cs ls us gW (gV ws)
 simp only [List.drop_zero, splice_full hcz hz] at h
 refine EndsA.one (c := aF) (z := .seq aG (appL aH (.seq aJ (.seq aK aL)))) (fg := kp 8) callN good_aF (Runs.path yxN h ?_) (Moves.kept (m := 263) (Kept.tri (l := [(5, byteRow ls), (7, byteRow ls), (12, diskW (.slice none 0 0) true), (262, byteRow us)]) (eb := none) (ev := none) hw (by kernel_rfl) (by kernel_rfl) (by simp) (by simp) (by intro e he; cases he) (by intro e he; cases he) (fun p hp => ?_) (by omega) (Nat.le_of_ble_eq_true rfl) rfl) (Nat.le_of_ble_eq_true rfl) (slA_low (by kernel_rfl))) (endAG hL hs hw hub hul hu hls hr hz hlb hz hm1 hm2 hno)
 ·repeat rw [same_of]
  ·simp only [List.drop_zero, hcz, hz, hlb, ones_bytes hlb, List.take_of_length_le (show ls.length ≤ 4096 by omega), f9]
   kernel_rfl
  all_goals rfl
 ·simp only [List.mem_cons, List.not_mem_nil, or_false] at hp
  rcases hp with rfl | rfl | rfl | rfl
  ·exact ⟨by kernel_rfl, Nat.le_of_ble_eq_true rfl, fun π hk => bytes_ren hlb π⟩
  ·exact ⟨by kernel_rfl, Nat.le_of_ble_eq_true rfl, fun π hk => bytes_ren hlb π⟩
  ·exact ⟨by kernel_rfl, Nat.le_of_ble_eq_true rfl, fun π hk => lowE_ren hk rfl⟩
  ·exact ⟨by kernel_rfl, Nat.le_of_ble_eq_true rfl, fun π hk => bytes_ren hub π⟩
end
def img2 : List Value := imgRow 37 2 1 97 twoL
def rec2 : Value := .agg #[.int .i64 37, .int .i64 37, .int .u64 2, .string ⟨#[97]⟩, .int .i64 3, .bool false]
theorem img2_bytes : img2.all isByte = true := imgRow_bytes 37 2 1 97 rfl
theorem img2_length : img2.length = 37 := imgRow_length _ _ _ _ _
def row2 : List Value := splice (zerosL [.int .u8 0] 74) 37 img2
theorem row2_bytes : row2.all isByte = true := by kernel_rfl
theorem row2_length : row2.length = 74 := by kernel_rfl
theorem row2_rec : isRec row2 74 37 = true := by kernel_rfl
theorem row2_K : rdK row2 37 = 1 := by kernel_rfl
theorem row2_V : rdV row2 37 = 3 := by kernel_rfl
theorem row2_num : getFrom 0 0 (List.take 8 (List.drop 40 row2)) = 2 := by kernel_rfl
theorem row2_name : bytesOf (List.take 1 (List.drop 62 row2)) = [97] := by kernel_rfl
theorem row2_b2 : byteN row2 39 = 0 := by kernel_rfl
noncomputable abbrev zAF : Code := .seq aF (.seq aG (appL aH (.seq aJ (.seq aK aL))))
section
variable (hL : OrcSound Tryz.prog orcL) {ws cs ls rest : List Value} (hs : sameL ws wordsL = true) (hw : ws.all plain1 = true)
 (hls : ls = imgRow 0 1 1 97 oneL ++ rest) (hr : rest.all isByte = true) (hz : ls.length = 4096)
 (hcb : cs.all isByte = true) (hcz : cs.length = 4096) (hc2 : (cs.drop 37).take 37 = img2) (hm1 : noMark ls 4032 = true) (hm2 : noMark ls 4064 = true) (hno : noRecs ls 4032 37 = true)
include hL hs hw hls hr hz hcb hcz hc2 hm1 hm2 hno
theorem endAE : EndsA (.seq aE zAF) (slA [(1, .pointer (some ⟨12, 0, none⟩)), (3, .pointer (some ⟨14, 0, none⟩)), (5, .int .i64 0), (6, .int .i64 0), (7, .int .i64 0)])
 (tri gW (gV ws) none none [(5, byteRow cs), (7, byteRow ls), (12, diskW (.slice (some ⟨231, 0, none⟩) 1 1) false), (13, .map [⟨.string ⟨#[97]⟩, rec2, 1⟩] 2 false), (14, cacheAt 12 13 4032 (.slice (some ⟨245, 0, none⟩) 2 2) 3 74), (231, .row [.int .i64 37, .slice (some ⟨229, 0, none⟩) 37 37] 2 false)] 246) := by
 have hlb : ls.all isByte = true := by rw [hls, List.all_append, imgRow_bytes 0 1 1 97 rfl, hr]; rfl
 have hT : List.take 37 img2 = img2 := by rw [← img2_length, List.take_length]
 have hzz : List.take 0 (List.drop 0 (zerosL [Value.int IntKind.u8 0] 0)) = [] := rfl
 have hsp : splice (zerosL [Value.int IntKind.u8 0] 74) 37 img2 = row2 := rfl
 have f8 : (zerosL [Value.int .u8 0] 74).all one = true := by kernel_rfl
 have f9 : (zerosL [Value.int .u8 0] 74).length = 74 := by kernel_rfl
 have f10 : same (readV' row2 37 true) (readV' row2 37 true) = true := same_of (by kernel_rfl)
 have o1 : ∀ s, one (.string s) = true := fun _ => rfl
 have o2 : ∀ b, one (.bool b) = true := fun _ => rfl
 have h := alE cs ls gW (gV ws)
 simp only [Int.toNat_natCast, Nat.sub_zero, Nat.zero_add, Nat.mul_one, List.take_zero, hc2, List.nil_append, List.drop_zero, hT, hsp, row2_rec, if_true, Bool.true_and] at h
 refine EndsA.one (c := aE) (z := zAF) (fg := kp 8) callN good_aE (Runs.path yxN h ?_) (Moves.kept (m := 263) (Kept.tri (l := [(5, byteRow cs), (7, byteRow ls), (12, diskW (.slice (some ⟨231, 0, none⟩) 1 1) false), (231, .row [.int .i64 37, .slice (some ⟨229, 0, none⟩) 37 37] 2 false), (262, byteRow img2)]) (eb := none) (ev := none) hw (by kernel_rfl) (by kernel_rfl) (by simp) (by simp) (by intro e he; cases he) (by intro e he; cases he) (fun p hp => ?_) (by omega) (Nat.le_of_ble_eq_true rfl) rfl) (Nat.le_of_ble_eq_true rfl) (slA_low (by kernel_rfl))) (endAF hL hs hw img2_bytes (by rw [img2_length]; omega) (by kernel_rfl) hls hr hz hcb hcz hm1 hm2 hno)
 ·simp only [f10]
  simp only [row2_K, row2_V, row2_num, row2_name, row2_b2, f8, f9, o1, o2, row2_bytes, row2_length, img2_bytes, img2_length, ones_bytes img2_bytes, hcz, hc2, recOf, same, sameL, same1, sameM, sameA, beqBytes_self, decide_true, beq_self_eq_true, if_true, Bool.true_and, Bool.and_true, Bool.not_true, Bool.not_false, Bool.and_self, Nat.zero_add, List.length_cons, List.length_nil, List.all_cons, List.all_nil, oneInt,
   Bool.and_eq_true, decide_eq_true_eq, Bool.not_eq_true', decide_eq_false_iff_not, true_and, and_true]
  exact ⟨by omega, ⟨⟨by omega, by omega⟩, by omega⟩, rfl⟩
 ·simp only [List.mem_cons, List.not_mem_nil, or_false] at hp
  rcases hp with rfl | rfl | rfl | rfl | rfl
  ·exact ⟨by kernel_rfl, Nat.le_of_ble_eq_true rfl, fun π hk => bytes_ren hcb π⟩
  ·exact ⟨by kernel_rfl, Nat.le_of_ble_eq_true rfl, fun π hk => bytes_ren hlb π⟩
  ·exact ⟨by kernel_rfl, Nat.le_of_ble_eq_true rfl, fun π hk => lowE_ren hk rfl⟩
  ·exact ⟨by kernel_rfl, Nat.le_of_ble_eq_true rfl, fun π hk => lowE_ren hk rfl⟩
  ·exact ⟨by kernel_rfl, Nat.le_of_ble_eq_true rfl, fun π hk => bytes_ren img2_bytes π⟩
end
noncomputable abbrev zAE : Code := .seq aE zAF
theorem twoIs : List.take 3 (splice (splice (splice (zerosL [Value.int IntKind.u8 0] 3) 0 [Value.int IntKind.u8 116]) 1 [Value.int IntKind.u8 119]) 2 [Value.int IntKind.u8 111]) = twoL := rfl
theorem oneIs : List.take 3 (splice (splice (splice (zerosL [Value.int IntKind.u8 0] 3) 0 [Value.int IntKind.u8 111]) 1 [Value.int IntKind.u8 110]) 2 [Value.int IntKind.u8 101]) = oneL := rfl
section
variable (hL : OrcSound Tryz.prog orcL) {ws cs ls rest : List Value} (hs : sameL ws wordsL = true) (hw : ws.all plain1 = true)
 (hls : ls = imgRow 0 1 1 97 oneL ++ rest) (hr : rest.all isByte = true) (hz : ls.length = 4096)
 (hcb : cs.all isByte = true) (hcz : cs.length = 4096) (hm1 : noMark ls 4032 = true) (hm2 : noMark ls 4064 = true) (hno : noRecs ls 4032 37 = true)
include hL hs hw hls hr hz hcb hcz hm1 hm2 hno
theorem endAD : EndsA (.seq aD zAE) (slA [(1, .pointer (some ⟨12, 0, none⟩)), (3, .pointer (some ⟨14, 0, none⟩)), (5, .int .i64 0), (6, .int .i64 0)])
 (tri gW (gV ws) none none [(5, byteRow cs), (7, byteRow ls), (12, diskAt 5 7 4096), (13, .map [⟨.string ⟨#[97]⟩, .agg (recCells 97 3).toArray, 0⟩] 1 false), (14, cacheAt 12 13 4032 (.slice (some ⟨129, 0, none⟩) 1 1) 2 37), (129, .row (recCells 97 3) 6 false)] 130) := by
 have hlb : ls.all isByte = true := by rw [hls, List.all_append, imgRow_bytes 0 1 1 97 rfl, hr]; rfl
 have hT : List.take 37 (imgRow 37 2 1 97 twoL) = imgRow 37 2 1 97 twoL := List.take_of_length_le (Nat.le_of_eq img2_length)
 have hTl : List.length (imgRow 37 2 1 97 twoL) = 37 := img2_length
 have hTb : (imgRow 37 2 1 97 twoL).all isByte = true := img2_bytes
 have hsl : (splice cs 37 (imgRow 37 2 1 97 twoL)).length = 4096 := by
  unfold splice
  rw [List.length_append, List.length_append, hTl, List.length_take, List.length_drop]; omega
 have hsb : (splice cs 37 (imgRow 37 2 1 97 twoL)).all isByte = true := by
  have h1 := take_bytes hcb 0 37
  rw [List.drop_zero] at h1
  unfold splice
  rw [List.all_append, List.all_append, h1, hTb, Bool.true_and, Bool.true_and]
  rw [List.all_eq_true] at hcb ⊢
  exact fun v hv => hcb v (List.mem_of_mem_drop hv)
 have hs2 : ((splice cs 37 (imgRow 37 2 1 97 twoL)).drop 37).take 37 = img2 := by
  unfold splice
  rw [List.append_assoc, List.drop_left' (by rw [List.length_take]; omega)]
  exact List.take_left' hTl
 have h := alD cs ls gW (gV ws)
 simp only [twoIs, List.drop_zero, hT] at h
 refine EndsA.one (c := aD) (z := zAE) (fg := kp 8) callN good_aD (Runs.path yxN h ?_) (Moves.kept (m := 246) (Kept.tri (l := [(5, byteRow (splice cs 37 (imgRow 37 2 1 97 twoL))), (7, byteRow ls), (12, diskW (.slice (some ⟨231, 0, none⟩) 1 1) false), (13, .map [⟨.string ⟨#[97]⟩, rec2, 1⟩] 2 false), (14, cacheAt 12 13 4032 (.slice (some ⟨245, 0, none⟩) 2 2) 3 74), (231, .row [.int .i64 37, .slice (some ⟨229, 0, none⟩) 37 37] 2 false)]) (eb := none) (ev := none) hw (by kernel_rfl) (by kernel_rfl) (by simp) (by simp) (by intro e he; cases he) (by intro e he; cases he) (fun p hp => ?_) (by omega) (Nat.le_of_ble_eq_true rfl) rfl) (Nat.le_of_ble_eq_true rfl) (slA_low (by kernel_rfl))) (endAE hL hs hw hls hr hz hsb hsl hs2 hm1 hm2 hno)
 ·repeat rw [same_of]
  ·simp only [twoIs, List.drop_zero, List.take_zero, List.nil_append, hT, hTl, hTb, hcz, hcb, ones_bytes hTb]
   kernel_rfl
  all_goals rfl
 ·simp only [List.mem_cons, List.not_mem_nil, or_false] at hp
  rcases hp with rfl | rfl | rfl | rfl | rfl | rfl
  ·exact ⟨by kernel_rfl, Nat.le_of_ble_eq_true rfl, fun π hk => bytes_ren hsb π⟩
  ·exact ⟨by kernel_rfl, Nat.le_of_ble_eq_true rfl, fun π hk => bytes_ren hlb π⟩
  ·exact ⟨by kernel_rfl, Nat.le_of_ble_eq_true rfl, fun π hk => lowE_ren hk rfl⟩
  ·exact ⟨by kernel_rfl, Nat.le_of_ble_eq_true rfl, fun π hk => lowE_ren hk rfl⟩
  ·exact ⟨by kernel_rfl, Nat.le_of_ble_eq_true rfl, fun π hk => lowE_ren hk rfl⟩
  ·exact ⟨by kernel_rfl, Nat.le_of_ble_eq_true rfl, fun π hk => lowE_ren hk rfl⟩
end
end Go.Xe
