/- A part of the proof. -/
import Derived.Test.YtkhjbbigangbdaaGreatDoorM08
set_option linter.all false
namespace Go.Xe
open Go Go.Proofs
def orc1 : Orc := fun f => if f = 52 then some getF else if f = 55 then some sumF else none
noncomputable def yc1 : YCall := ygo Tryz.prog okN orc1 kp 100
theorem readP0 (n len cap : Nat) (cs : List Value) (ro : Bool) : ycode Tryz.prog okN yc1 (kp 37) 100 (sub (codeOf Tryz.prog 37) [0]) (startX Tryz.f37 [.slice (ad 0) len cap, .int .i64 (n : Int)]) { heap := PT.leaf.set 0 (some (.row cs 1 ro)), next := 1, glob := 0 } [] = (some (true, ((XE.normal, ([some (Value.slice (ad 0) len cap), some (Value.int .i64 n), none, none, some (Value.pointer (ad 1))] ++ nn 94), ⟨(.node (lr [Value.int .i64 0, Value.int .i64 0, Value.int .u64 0, Value.string { data := #[] : ByteArray }, Value.int .i64 0, Value.bool false] 0 false) (some (Ent.row cs 1 ro)) .leaf), 2, 0⟩), []))) := by kernel_rfl
theorem readP1 (n len cap : Nat) (cs : List Value) (ro : Bool) : ycode Tryz.prog okN yc1 (kp 37) 100 (sub (codeOf Tryz.prog 37) [1,0]) ([some (.slice (ad 0) len cap), some (.int .i64 (n : Int)), none, none, some (.pointer (ad 1))] ++ nn 94) { heap := (PT.leaf.set 0 (some (.row cs 1 ro))).set 1 (some (.row [.int .i64 0, .int .i64 0, .int .u64 0, .string ⟨#[]⟩, .int .i64 0, .bool false] 0 false)), next := 2, glob := 0 } [] = (some (decide (0 ≤ (n : Int)) && (decide ((n : Int) ≤ (len : Int)) && true) && true && true && true && true && true && true, ((XE.normal, ([none, some (Value.int .i64 n), none, none, some (Value.pointer (ad 1)), none, none, some (Value.slice (some ⟨0, 0 + n * 1, none⟩) (len - n) (cap - n))] ++ nn 91), ⟨(.node (lr [Value.int .i64 0, Value.int .i64 0, Value.int .u64 0, Value.string { data := #[] : ByteArray }, Value.int .i64 0, Value.bool false] 0 false) (some (Ent.row cs 1 ro)) .leaf), 2, 0⟩), []))) := by kernel_rfl
theorem readShort (n o l c : Nat) (cs : List Value) (ro : Bool) : ycode Tryz.prog okN yc1 (kp 37) 100 (sub (codeOf Tryz.prog 37) [1,1,0]) ([none, some (.int .i64 (n : Int)), none, none, some (.pointer (ad 1)), none, none, some (.slice (some ⟨0, o, none⟩) l c)] ++ nn 91) { heap := (PT.leaf.set 0 (some (.row cs 1 ro))).set 1 (some (.row [.int .i64 0, .int .i64 0, .int .u64 0, .string ⟨#[]⟩, .int .i64 0, .bool false] 0 false)), next := 2, glob := 0 } (bits 19 328720) = (let x0 := decide ((l : Int) < 33); some (x0 && true && (x0 && true && (x0 && true && (x0 && true && (x0 && true && true && true)))) && true && true, ((XE.ret, ([none, none, none, none, some (Value.pointer (ad 1)), some (Value.int .u64 0), some (Value.bool false)] ++ nn 92), ⟨(.node (lr [Value.int .i64 0, Value.int .i64 0, Value.int .u64 0, Value.string { data := #[] : ByteArray }, Value.int .i64 0, Value.bool false] 0 false) (some (Ent.row cs 1 ro)) .leaf), 2, 0⟩), []))) := by kernel_rfl
theorem readC (n o l c : Nat) (cs : List Value) (ro : Bool) : ycode Tryz.prog okN yc1 (kp 37) 100 (sub (codeOf Tryz.prog 37) [1,1,0]) ([none, some (.int .i64 (n : Int)), none, none, some (.pointer (ad 1)), none, none, some (.slice (some ⟨0, o, none⟩) l c)] ++ nn 91) { heap := (PT.leaf.set 0 (some (.row cs 1 ro))).set 1 (some (.row [.int .i64 0, .int .i64 0, .int .u64 0, .string ⟨#[]⟩, .int .i64 0, .bool false] 0 false)), next := 2, glob := 0 } (bits 19 328719) = (let x0 := !decide (intOf (List.getD cs (o + 0) undefX) = 99); let x1 := !decide ((l : Int) < 33); some (x1 && true && (x1 && true && (decide (0 < (l : Int)) && true && true && true && (x1 && true && (decide (o + 0 < List.length cs) && true && (isInt IntKind.u8 (List.getD cs (o + 0) undefX) && true) && true && true && (x1 && true && (x1 && true && true && (x0 && true && (x0 && true && (x0 && true && (x0 && true && (x0 && true && true && true))))))))))) && true && true, ((XE.ret, ([none, none, none, none, some (Value.pointer (ad 1)), some (Value.int .u64 0), some (Value.bool false)] ++ nn 92), ⟨(.node (lr [Value.int .i64 0, Value.int .i64 0, Value.int .u64 0, Value.string { data := #[] : ByteArray }, Value.int .i64 0, Value.bool false] 0 false) (some (Ent.row cs 1 ro)) .leaf), 2, 0⟩), []))) := by kernel_rfl
theorem readK (n o l c : Nat) (cs : List Value) (ro : Bool) : ycode Tryz.prog okN yc1 (kp 37) 100 (sub (codeOf Tryz.prog 37) [1,1,0]) ([none, some (.int .i64 (n : Int)), none, none, some (.pointer (ad 1)), none, none, some (.slice (some ⟨0, o, none⟩) l c)] ++ nn 91) { heap := (PT.leaf.set 0 (some (.row cs 1 ro))).set 1 (some (.row [.int .i64 0, .int .i64 0, .int .u64 0, .string ⟨#[]⟩, .int .i64 0, .bool false] 0 false)), next := 2, glob := 0 } (bits 19 328655) = (let x0 := !!decide (intOf (List.getD cs (o + 0) undefX) = 99); let x1 := !decide (intOf (List.getD cs (o + 1) undefX) = 107); let x2 := !decide ((l : Int) < 33); some (x2 && true && (x2 && true && (decide (0 < (l : Int)) && true && true && true && (x2 && true && (decide (o + 0 < List.length cs) && true && (isInt IntKind.u8 (List.getD cs (o + 0) undefX) && true) && true && true && (x2 && true && (x2 && true && true && (x0 && true && (x0 && true && (decide (1 < (l : Int)) && true && true && true && (x0 && true && (decide (o + 1 < List.length cs) && true && (isInt IntKind.u8 (List.getD cs (o + 1) undefX) && true) && true && true && (x0 && true && (x0 && true && true && (x1 && true && (x1 && true && (x1 && true && (x1 && true && (x1 && true && true && true)))))))))))))))))) && true && true, ((XE.ret, ([none, none, none, none, some (Value.pointer (ad 1)), some (Value.int .u64 0), some (Value.bool false)] ++ nn 92), ⟨(.node (lr [Value.int .i64 0, Value.int .i64 0, Value.int .u64 0, Value.string { data := #[] : ByteArray }, Value.int .i64 0, Value.bool false] 0 false) (some (Ent.row cs 1 ro)) .leaf), 2, 0⟩), []))) := by kernel_rfl
theorem readX (n o l c : Nat) (cs : List Value) (ro : Bool) : ycode Tryz.prog okN yc1 (kp 37) 100 (sub (codeOf Tryz.prog 37) [1,1,0]) ([none, some (.int .i64 (n : Int)), none, none, some (.pointer (ad 1)), none, none, some (.slice (some ⟨0, o, none⟩) l c)] ++ nn 91) { heap := (PT.leaf.set 0 (some (.row cs 1 ro))).set 1 (some (.row [.int .i64 0, .int .i64 0, .int .u64 0, .string ⟨#[]⟩, .int .i64 0, .bool false] 0 false)), next := 2, glob := 0 } (bits 19 324559) = (let x0 := !!decide (intOf (List.getD cs (o + 1) undefX) = 107); let x1 := !!decide (intOf (List.getD cs (o + 0) undefX) = 99); let x2 := !decide ((l : Int) < 33); let x3 := List.getD cs (o + 2) undefX; some (x2 && true && (x2 && true && (decide (0 < (l : Int)) && true && true && true && (x2 && true && (decide (o + 0 < List.length cs) && true && (isInt IntKind.u8 (List.getD cs (o + 0) undefX) && true) && true && true && (x2 && true && (x2 && true && true && (x1 && true && (x1 && true && (decide (1 < (l : Int)) && true && true && true && (x1 && true && (decide (o + 1 < List.length cs) && true && (isInt IntKind.u8 (List.getD cs (o + 1) undefX) && true) && true && true && (x1 && true && (x1 && true && true && (x0 && true && (x0 && true && (decide (2 < (l : Int)) && true && true && true && (x0 && true && (decide (o + 2 < List.length cs) && true && (isInt IntKind.u8 x3 && true) && true && true && (x0 && true && (x0 && true && true && true)))))))))))))))))))) && true && (decide (1 < intOf x3) && true), ((XE.ret, ([none, none, none, none, some (Value.pointer (ad 1)), some (Value.int .u64 0), some (Value.bool false)] ++ nn 92), ⟨(.node (lr [Value.int .i64 0, Value.int .i64 0, Value.int .u64 0, Value.string { data := #[] : ByteArray }, Value.int .i64 0, Value.bool false] 0 false) (some (Ent.row cs 1 ro)) .leaf), 2, 0⟩), []))) := by kernel_rfl
theorem readA (n o l c : Nat) (cs : List Value) (ro : Bool) : ycode Tryz.prog okN yc1 (kp 37) 100 (sub (codeOf Tryz.prog 37) [1,1,0]) ([none, some (.int .i64 (n : Int)), none, none, some (.pointer (ad 1)), none, none, some (.slice (some ⟨0, o, none⟩) l c)] ++ nn 91) { heap := (PT.leaf.set 0 (some (.row cs 1 ro))).set 1 (some (.row [.int .i64 0, .int .i64 0, .int .u64 0, .string ⟨#[]⟩, .int .i64 0, .bool false] 0 false)), next := 2, glob := 0 } (bits 19 62415) = (let x0 := !!decide (intOf (List.getD cs (o + 1) undefX) = 107); let x1 := !!decide (intOf (List.getD cs (o + 0) undefX) = 99); let x2 := !decide ((l : Int) < 33); let x3 := List.getD cs (o + 2) undefX; some (x2 && true && (x2 && true && (decide (0 < (l : Int)) && true && true && true && (x2 && true && (decide (o + 0 < List.length cs) && true && (isInt IntKind.u8 (List.getD cs (o + 0) undefX) && true) && true && true && (x2 && true && (x2 && true && true && (x1 && true && (x1 && true && (decide (1 < (l : Int)) && true && true && true && (x1 && true && (decide (o + 1 < List.length cs) && true && (isInt IntKind.u8 (List.getD cs (o + 1) undefX) && true) && true && true && (x1 && true && (x1 && true && true && (x0 && true && (x0 && true && (decide (2 < (l : Int)) && true && true && true && (x0 && true && (decide (o + 2 < List.length cs) && true && (isInt IntKind.u8 x3 && true) && true && true && (x0 && true && (x0 && true && true && true)))))))))))))))))))) && true && (!decide (1 < intOf x3) && true), ((XE.normal, ([none, some (Value.int .i64 n), none, none, some (Value.pointer (ad 1)), none, none, some (Value.slice (some ⟨0, o, none⟩) l c)] ++ nn 27 ++ [some (Value.bool (decide (1 < intOf x3)))] ++ nn 63), ⟨(.node (lr [Value.int .i64 0, Value.int .i64 0, Value.int .u64 0, Value.string { data := #[] : ByteArray }, Value.int .i64 0, Value.bool false] 0 false) (some (Ent.row cs 1 ro)) .leaf), 2, 0⟩), []))) := by kernel_rfl
theorem readB (n o l c : Nat) (cs : List Value) (ro : Bool) (j : Option Value) : ycode Tryz.prog okN yc1 (kp 37) 100 (sub (codeOf Tryz.prog 37) [1,1,1,0]) ([none, some (.int .i64 (n : Int)), none, none, some (.pointer (ad 1)), none, none, some (.slice (some ⟨0, o, none⟩) l c)] ++ nn 27 ++ [j] ++ nn 63) { heap := (PT.leaf.set 0 (some (.row cs 1 ro))).set 1 (some (.row [.int .i64 0, .int .i64 0, .int .u64 0, .string ⟨#[]⟩, .int .i64 0, .bool false] 0 false)), next := 2, glob := 0 } [] = (let x0 := Value.int .i64 (IntKind.wrap .i64 (getFrom 0 0 (List.take 2 (List.drop (o + 19) cs)))); let x1 := Value.int .i64 (IntKind.wrap .i64 (getFrom 0 0 (List.take 4 (List.drop (o + 21) cs)))); let x2 := Value.slice (some ⟨0, o, none⟩) l c; let x3 := Value.slice (some ⟨0, o + 21, none⟩) 4 (c - 21); let x4 := Value.slice (some ⟨0, o + 19, none⟩) 2 (c - 19); let x5 := decide (25 ≤ (c : Int)); let x6 := List.all cs (isInt IntKind.u8) && true; some (decide (21 ≤ (c : Int)) && true && true && true && true && true && (decide (2 < 576460752303423488) && (decide (o + 19 + 2 ≤ List.length cs) && x6) && true && true && (x5 && true && true && true && true && true && (decide (4 < 576460752303423488) && (decide (o + 21 + 4 ≤ List.length cs) && x6) && true && true && true))) && (same x2 x2 && true && (decide (21 ≤ (c : Int)) && true && true && true && true && (same x4 x4 && true) && (same x0 x0 && (same x0 x0 && true) && (same x2 x2 && (same x2 x2 && true) && (x5 && true && true && true && true && (same x3 x3 && (x5 && true && true && true && true && (same x3 x3 && true))) && (same x1 x1 && true && (same x0 x0 && true && (same x1 x1 && true && true))))))) && true) && true, ((XE.normal, ([none, some (Value.int .i64 n), none, none, some (Value.pointer (ad 1)), none, none, some x2, some x0, some x1] ++ nn 89), ⟨(.node (lr [Value.int .i64 0, Value.int .i64 0, Value.int .u64 0, Value.string { data := #[] : ByteArray }, Value.int .i64 0, Value.bool false] 0 false) (some (Ent.row cs 1 ro)) .leaf), 12, 0⟩), []))) := by kernel_rfl
theorem readK0 (n o l c K V : Nat) (cs : List Value) (ro : Bool) : ycode Tryz.prog okN yc1 (kp 37) 100 (sub (codeOf Tryz.prog 37) [1,1,1,1,0]) ([none, some (.int .i64 (n : Int)), none, none, some (.pointer (ad 1)), none, none, some (.slice (some ⟨0, o, none⟩) l c), some (.int .i64 (K : Int)), some (.int .i64 (V : Int))] ++ nn 89) { heap := (PT.leaf.set 0 (some (.row cs 1 ro))).set 1 (some (.row [.int .i64 0, .int .i64 0, .int .u64 0, .string ⟨#[]⟩, .int .i64 0, .bool false] 0 false)), next := 12, glob := 0 } (bits 14 10244) = (let x0 := decide ((K : Int) < 1); some (x0 && true && (x0 && true && (x0 && true && true && true)) && true && true, ((XE.ret, ([none, none, none, none, some (Value.pointer (ad 1)), some (Value.int .u64 0), some (Value.bool false)] ++ nn 92), ⟨(.node (lr [Value.int .i64 0, Value.int .i64 0, Value.int .u64 0, Value.string { data := #[] : ByteArray }, Value.int .i64 0, Value.bool false] 0 false) (some (Ent.row cs 1 ro)) .leaf), 12, 0⟩), []))) := by kernel_rfl
theorem readK200 (n o l c K V : Nat) (cs : List Value) (ro : Bool) : ycode Tryz.prog okN yc1 (kp 37) 100 (sub (codeOf Tryz.prog 37) [1,1,1,1,0]) ([none, some (.int .i64 (n : Int)), none, none, some (.pointer (ad 1)), none, none, some (.slice (some ⟨0, o, none⟩) l c), some (.int .i64 (K : Int)), some (.int .i64 (V : Int))] ++ nn 89) { heap := (PT.leaf.set 0 (some (.row cs 1 ro))).set 1 (some (.row [.int .i64 0, .int .i64 0, .int .u64 0, .string ⟨#[]⟩, .int .i64 0, .bool false] 0 false)), next := 12, glob := 0 } (bits 14 10243) = (let x0 := decide (200 < (K : Int)); let x1 := !decide ((K : Int) < 1); some (x1 && true && (x1 && true && (x1 && true && true && (x0 && true && (x0 && true && (x0 && true && (x0 && true && (x0 && true && (x0 && true && (x0 && true && (x0 && true && true && true)))))))))) && true && true, ((XE.ret, ([none, none, none, none, some (Value.pointer (ad 1)), some (Value.int .u64 0), some (Value.bool false)] ++ nn 92), ⟨(.node (lr [Value.int .i64 0, Value.int .i64 0, Value.int .u64 0, Value.string { data := #[] : ByteArray }, Value.int .i64 0, Value.bool false] 0 false) (some (Ent.row cs 1 ro)) .leaf), 12, 0⟩), []))) := by kernel_rfl
theorem readV (n o l c K V : Nat) (cs : List Value) (ro : Bool) : ycode Tryz.prog okN yc1 (kp 37) 100 (sub (codeOf Tryz.prog 37) [1,1,1,1,0]) ([none, some (.int .i64 (n : Int)), none, none, some (.pointer (ad 1)), none, none, some (.slice (some ⟨0, o, none⟩) l c), some (.int .i64 (K : Int)), some (.int .i64 (V : Int))] ++ nn 89) { heap := (PT.leaf.set 0 (some (.row cs 1 ro))).set 1 (some (.row [.int .i64 0, .int .i64 0, .int .u64 0, .string ⟨#[]⟩, .int .i64 0, .bool false] 0 false)), next := 12, glob := 0 } (bits 14 10227) = (let x0 := !decide (200 < (K : Int)); let x1 := !decide ((K : Int) < 1); some (x1 && true && (x1 && true && (x1 && true && true && (x0 && true && (x0 && true && (x0 && true && (x0 && true && (x0 && true && (x0 && true && (x0 && true && (x0 && true && true && true)))))))))) && true && (decide (IntKind.wrap .i64 (IntKind.wrap .i64 ((l : Int) - 33) - (K : Int)) < (V : Int)) && true), ((XE.ret, ([none, none, none, none, some (Value.pointer (ad 1)), some (Value.int .u64 0), some (Value.bool false)] ++ nn 92), ⟨(.node (lr [Value.int .i64 0, Value.int .i64 0, Value.int .u64 0, Value.string { data := #[] : ByteArray }, Value.int .i64 0, Value.bool false] 0 false) (some (Ent.row cs 1 ro)) .leaf), 12, 0⟩), []))) := by kernel_rfl
theorem readD (n o l c K V : Nat) (cs : List Value) (ro : Bool) : ycode Tryz.prog okN yc1 (kp 37) 100 (sub (codeOf Tryz.prog 37) [1,1,1,1,0]) ([none, some (.int .i64 (n : Int)), none, none, some (.pointer (ad 1)), none, none, some (.slice (some ⟨0, o, none⟩) l c), some (.int .i64 (K : Int)), some (.int .i64 (V : Int))] ++ nn 89) { heap := (PT.leaf.set 0 (some (.row cs 1 ro))).set 1 (some (.row [.int .i64 0, .int .i64 0, .int .u64 0, .string ⟨#[]⟩, .int .i64 0, .bool false] 0 false)), next := 12, glob := 0 } (bits 14 2035) = (let x0 := !decide (200 < (K : Int)); let x1 := decide (IntKind.wrap .i64 (IntKind.wrap .i64 ((l : Int) - 33) - (K : Int)) < (V : Int)); let x2 := !decide ((K : Int) < 1); some (x2 && true && (x2 && true && (x2 && true && true && (x0 && true && (x0 && true && (x0 && true && (x0 && true && (x0 && true && (x0 && true && (x0 && true && (x0 && true && true && true)))))))))) && true && (!x1 && true), ((XE.normal, ([none, some (Value.int .i64 n), none, none, some (Value.pointer (ad 1)), none, none, some (Value.slice (some ⟨0, o, none⟩) l c), some (Value.int .i64 K), some (Value.int .i64 V)] ++ nn 49 ++ [some (Value.bool (x1))] ++ nn 39), ⟨(.node (lr [Value.int .i64 0, Value.int .i64 0, Value.int .u64 0, Value.string { data := #[] : ByteArray }, Value.int .i64 0, Value.bool false] 0 false) (some (Ent.row cs 1 ro)) .leaf), 12, 0⟩), []))) := by kernel_rfl
theorem readE (n o l c K V : Nat) (cs : List Value) (ro : Bool) (j : Option Value) : ycode Tryz.prog okN yc1 (kp 37) 100 (sub (codeOf Tryz.prog 37) [1,1,1,1,1,0]) ([none, some (.int .i64 (n : Int)), none, none, some (.pointer (ad 1)), none, none, some (.slice (some ⟨0, o, none⟩) l c), some (.int .i64 (K : Int)), some (.int .i64 (V : Int))] ++ nn 49 ++ [j] ++ nn 39) { heap := (PT.leaf.set 0 (some (.row cs 1 ro))).set 1 (some (.row [.int .i64 0, .int .i64 0, .int .u64 0, .string ⟨#[]⟩, .int .i64 0, .bool false] 0 false)), next := 12, glob := 0 } [] = (some (true, ((XE.normal, ([none, some (Value.int .i64 n), none, none, some (Value.pointer (ad 1)), none, none, some (Value.slice (some ⟨0, o, none⟩) l c), some (Value.int .i64 K), some (Value.int .i64 V), some (Value.int .i64 (IntKind.wrap .i64 (IntKind.wrap .i64 (25 + (K : Int)) + (V : Int))))] ++ nn 88), ⟨(.node (lr [Value.int .i64 0, Value.int .i64 0, Value.int .u64 0, Value.string { data := #[] : ByteArray }, Value.int .i64 0, Value.bool false] 0 false) (some (Ent.row cs 1 ro)) .leaf), 12, 0⟩), []))) := by kernel_rfl
theorem readSum (n o l c K V E : Nat) (cs : List Value) (ro : Bool) : ycode Tryz.prog okN yc1 (kp 37) 100 (sub (codeOf Tryz.prog 37) [1,1,1,1,1,1,0]) ([none, some (.int .i64 (n : Int)), none, none, some (.pointer (ad 1)), none, none, some (.slice (some ⟨0, o, none⟩) l c), some (.int .i64 (K : Int)), some (.int .i64 (V : Int)), some (.int .i64 (E : Int))] ++ nn 88) { heap := (PT.leaf.set 0 (some (.row cs 1 ro))).set 1 (some (.row [.int .i64 0, .int .i64 0, .int .u64 0, .string ⟨#[]⟩, .int .i64 0, .bool false] 0 false)), next := 12, glob := 0 } [true] = (let x0 := IntKind.wrap .i64 ((E : Int) + 8); let x1 := !decide (getFrom 0 0 (List.take (Int.toNat x0 - E) (List.drop (o + E * 1) cs)) = sumFrom (sumSeed (n : Int)) (List.take (E - 0) (List.drop (o + 0) cs))); let x2 := Value.slice (some ⟨0, o, none⟩) l c; let x3 := Value.slice (some ⟨0, o + 0, none⟩) (E - 0) (c - 0); let x4 := same (Value.int .i64 E) (Value.int .i64 E); let x6 := decide ((E : Int) ≤ (c : Int)) && true; let x7 := decide (IntKind.wrap .i64 ((E : Int) + 8) ≤ (c : Int)) && true; let x8 := Value.slice (some ⟨0, o + E * 1, none⟩) (Int.toNat x0 - E) (c - E); let x9 := decide (0 ≤ IntKind.wrap .i64 ((E : Int) + 8)); let x10 := Value.int .i64 n; let x11 := decide (0 ≤ (E : Int)); let x5 := x11 && (decide ((E : Int) ≤ (↑(Int.toNat x0) : Int)) && true) && true; let x12 := List.all cs (isInt IntKind.u8) && true; some (x9 && x7 && x5 && true && true && true && (decide (Int.toNat x0 - E < 576460752303423488) && (decide (o + E * 1 + (Int.toNat x0 - E) ≤ List.length cs) && x12) && true && true && (x11 && x6 && true && true && true && true && (decide (E - 0 < 4611686018427387904) && (decide (o + 0 + (E - 0) ≤ List.length cs) && x12) && true && true && true))) && (same x2 x2 && true && (x4 && true && (x4 && true && (same (Value.int .i64 x0) (Value.int .i64 x0) && true && (x9 && x7 && x5 && true && true && (same x8 x8 && true) && (same x10 x10 && (same x10 x10 && true) && (same x2 x2 && (same x2 x2 && true) && (x4 && (x4 && true) && (x11 && x6 && true && true && true && (same x3 x3 && (x11 && x6 && true && true && true && (same x3 x3 && true))) && (same (Value.bool x1) (Value.bool x1) && true && true))))))))) && true) && true && (x1 && true), ((XE.ret, ([none, none, none, none, some (Value.pointer (ad 1)), some (Value.int .u64 0), some (Value.bool false)] ++ nn 92), ⟨(.node (lr [Value.int .i64 0, Value.int .i64 0, Value.int .u64 0, Value.string { data := #[] : ByteArray }, Value.int .i64 0, Value.bool false] 0 false) (some (Ent.row cs 1 ro)) .leaf), 24, 0⟩), []))) := by kernel_rfl
theorem readF (n o l c K V E : Nat) (cs : List Value) (ro : Bool) : ycode Tryz.prog okN yc1 (kp 37) 100 (sub (codeOf Tryz.prog 37) [1,1,1,1,1,1,0]) ([none, some (.int .i64 (n : Int)), none, none, some (.pointer (ad 1)), none, none, some (.slice (some ⟨0, o, none⟩) l c), some (.int .i64 (K : Int)), some (.int .i64 (V : Int)), some (.int .i64 (E : Int))] ++ nn 88) { heap := (PT.leaf.set 0 (some (.row cs 1 ro))).set 1 (some (.row [.int .i64 0, .int .i64 0, .int .u64 0, .string ⟨#[]⟩, .int .i64 0, .bool false] 0 false)), next := 12, glob := 0 } [false] = (let x1 := IntKind.wrap .i64 ((E : Int) + 8); let x0 := !decide (getFrom 0 0 (List.take (Int.toNat x1 - E) (List.drop (o + E * 1) cs)) = sumFrom (sumSeed (n : Int)) (List.take (E - 0) (List.drop (o + 0) cs))); let x2 := Value.slice (some ⟨0, o, none⟩) l c; let x3 := Value.slice (some ⟨0, o + 0, none⟩) (E - 0) (c - 0); let x4 := Value.int .i64 E; let x6 := decide ((E : Int) ≤ (c : Int)) && true; let x7 := decide (IntKind.wrap .i64 ((E : Int) + 8) ≤ (c : Int)) && true; let x8 := Value.slice (some ⟨0, o + E * 1, none⟩) (Int.toNat x1 - E) (c - E); let x9 := Value.int .i64 n; let x10 := decide (0 ≤ IntKind.wrap .i64 ((E : Int) + 8)); let x11 := decide (0 ≤ (E : Int)); let x5 := x11 && (decide ((E : Int) ≤ (↑(Int.toNat x1) : Int)) && true) && true; let x12 := List.all cs (isInt IntKind.u8) && true; some (x10 && x7 && x5 && true && true && true && (decide (Int.toNat x1 - E < 576460752303423488) && (decide (o + E * 1 + (Int.toNat x1 - E) ≤ List.length cs) && x12) && true && true && (x11 && x6 && true && true && true && true && (decide (E - 0 < 4611686018427387904) && (decide (o + 0 + (E - 0) ≤ List.length cs) && x12) && true && true && true))) && (same x2 x2 && true && (same x4 x4 && true && (same x4 x4 && true && (same (Value.int .i64 x1) (Value.int .i64 x1) && true && (x10 && x7 && x5 && true && true && (same x8 x8 && true) && (same x9 x9 && (same x9 x9 && true) && (same x2 x2 && (same x2 x2 && true) && (same x4 x4 && (same x4 x4 && true) && (x11 && x6 && true && true && true && (same x3 x3 && (x11 && x6 && true && true && true && (same x3 x3 && true))) && (same (Value.bool x0) (Value.bool x0) && true && true))))))))) && true) && true && (!x0 && true), ((XE.normal, ([none, some x9, none, none, some (Value.pointer (ad 1)), none, none, some x2, some (Value.int .i64 K), some (Value.int .i64 V), some x4] ++ nn 65 ++ [some (Value.bool x0)] ++ nn 22), ⟨(.node (lr [Value.int .i64 0, Value.int .i64 0, Value.int .u64 0, Value.string { data := #[] : ByteArray }, Value.int .i64 0, Value.bool false] 0 false) (some (Ent.row cs 1 ro)) .leaf), 24, 0⟩), []))) := by kernel_rfl
theorem readG (n o l c K V E : Nat) (cs : List Value) (ro : Bool) (j : Option Value) : ycode Tryz.prog okN yc1 (kp 37) 100 (sub (codeOf Tryz.prog 37) [1,1,1,1,1,1,1]) ([none, some (.int .i64 (n : Int)), none, none, some (.pointer (ad 1)), none, none, some (.slice (some ⟨0, o, none⟩) l c), some (.int .i64 (K : Int)), some (.int .i64 (V : Int)), some (.int .i64 (E : Int))] ++ nn 65 ++ [j] ++ nn 22) { heap := (PT.leaf.set 0 (some (.row cs 1 ro))).set 1 (some (.row [.int .i64 0, .int .i64 0, .int .u64 0, .string ⟨#[]⟩, .int .i64 0, .bool false] 0 false)), next := 24, glob := 0 } [false, false] = (let x1 := IntKind.wrap .i64 (25 + (K : Int)); let x3 := List.take (Int.toNat x1 - 25) (List.drop (o + 25) cs); let x4 := same (Value.slice (some ⟨0, o, none⟩) l c) (Value.slice (some ⟨0, o, none⟩) l c); let x5 := List.getD cs (o + 2) undefX; let x0 := splice (splice (splice (splice (splice (splice [Value.int .i64 0, Value.int .i64 0, Value.int .u64 0, Value.string { data := #[] : ByteArray }, Value.int .i64 0, Value.bool false] 0 [Value.int .i64 n]) 1 [Value.int .i64 (IntKind.wrap .i64 ((E : Int) + 8))]) 2 [Value.int .u64 (getFrom 0 0 (List.take 8 (List.drop (o + 3) cs)))]) 3 [Value.string { data := List.toArray (bytesOf x3) : ByteArray }]) 4 [Value.int .i64 V]) 5 [Value.bool (decide (intOf x5 = 1))]; let x2 := Value.agg (List.toArray (List.take 6 (List.drop 0 (splice [Value.int .i64 0, Value.int .i64 0, Value.int .u64 0, Value.string { data := #[] : ByteArray }, Value.int .i64 0, Value.bool false] 0 x0)))); let x6 := some (Ent.row [Value.int .i64 n, Value.int .i64 (IntKind.wrap .i64 ((E : Int) + 8)), Value.int .u64 (getFrom 0 0 (List.take 8 (List.drop (o + 3) cs))), Value.string { data := List.toArray (bytesOf x3) : ByteArray }, Value.int .i64 V, Value.bool (decide (intOf x5 = 1))] 0 false); let x7 := decide (o + 25 + (Int.toNat x1 - 25) ≤ List.length cs) && true && (List.all x3 (isInt IntKind.u8) && true); let x8 := Value.slice (some ⟨0, o + 25, none⟩) (Int.toNat x1 - 25) (c - 25); let x9 := Value.string { data := List.toArray (bytesOf x3) : ByteArray }; let x10 := Value.int .i64 (IntKind.wrap .i64 ((E : Int) + 8)); let x11 := decide (IntKind.wrap .i64 (25 + (K : Int)) ≤ (c : Int)) && true; let x12 := Value.int .u64 (getFrom 0 0 (List.take 8 (List.drop (o + 11) cs))); let x13 := Value.pointer (some ⟨0, o + 2, none⟩); let x14 := decide (25 ≤ (↑(Int.toNat x1) : Int)) && true && true; let x15 := decide (0 ≤ IntKind.wrap .i64 (25 + (K : Int))); let x16 := Value.bool (decide (intOf x5 = 1)); let x17 := Value.int .u8 (intOf x5); let x18 := !decide (Int.toNat x1 - 25 = 0); let x19 := decide (o + 2 < List.length cs); let x20 := isInt IntKind.u8 x5 && true; let x21 := Value.int .i64 x1; let x22 := Value.slice (some ⟨0, o + 11, none⟩) 8 (c - 11); let x23 := Value.int .i64 n; let x24 := Value.int .i64 E; let x25 := Value.int .i64 K; let x26 := Value.int .i64 V; let x27 := Value.slice (some ⟨0, o + 3, none⟩) 8 (c - 3); let x28 := decide (2 < (l : Int)); let x29 := List.all cs (isInt IntKind.u8) && true; let x30 := decide (8 < 576460752303423488); some (decide (11 ≤ (c : Int)) && true && true && true && true && true && (x30 && (decide (o + 3 + 8 ≤ List.length cs) && x29) && true && true && (x15 && x11 && x14 && true && true && true && (x18 && x7 && true && true && (x28 && true && true && true && (x19 && true && x20 && true && true && true))))) && (same x23 x23 && (same x23 x23 && true) && (same x24 x24 && (same x24 x24 && true) && (same x10 x10 && (same x10 x10 && true) && (x4 && true && (decide (11 ≤ (c : Int)) && true && true && true && true && (same x27 x27 && true) && (x4 && (x4 && true) && (same x25 x25 && (same x25 x25 && true) && (same x21 x21 && (same x21 x21 && true) && (x15 && x11 && x14 && true && true && (same x8 x8 && (x15 && x11 && x14 && true && true && (same x8 x8 && true))) && (x18 && x7 && true && (same x9 x9 && (x18 && x7 && true && (same x9 x9 && true))) && (same x26 x26 && (same x26 x26 && true) && (x4 && (x4 && true) && (x28 && true && true && (same x13 x13 && (x28 && true && true && (same x13 x13 && true))) && (x19 && true && x20 && true && (same x17 x17 && (x19 && true && x20 && true && (same x17 x17 && true))) && (same x16 x16 && (same x16 x16 && true) && (same (Value.agg (List.toArray x0)) (Value.agg (List.toArray x0)) && true && true))))))))))))))) && true) && true && (decide (19 ≤ (c : Int)) && true && true && true && true && true && (x30 && (decide (o + 11 + 8 ≤ List.length cs) && x29) && true && true && true) && (same x2 x2 && (same x2 x2 && true) && (x4 && true && (decide (19 ≤ (c : Int)) && true && true && true && true && (same x22 x22 && true) && (same x12 x12 && true && true))) && true) && true && true), ((XE.ret, ([none, none, none, none, some (Value.pointer (ad 1)), some x12, some (Value.bool true)] ++ nn 92), ⟨(.node (.node .leaf x6 (ch 3 2 (ln x6))) (some (Ent.row cs 1 ro)) .leaf), 50, 0⟩), []))) := by kernel_rfl
def byteN (cs : List Value) (i : Nat) : Int := intOf (cs.getD i undefX)
def rdK (cs : List Value) (n : Nat) : Nat := leN ((cs.drop (n + 19)).take 2)
def rdV (cs : List Value) (n : Nat) : Nat := leN ((cs.drop (n + 21)).take 4)
def rdSum (cs : List Value) (n E : Nat) : Bool := decide (getFrom 0 0 ((cs.drop (n + E)).take 8) = sumFrom (sumSeed (n : Int)) ((cs.drop n).take E))
def isRec (cs : List Value) (len n : Nat) : Bool :=
 decide (33 ≤ len - n) && decide (byteN cs n = 99) && decide (byteN cs (n + 1) = 107) && decide (byteN cs (n + 2) ≤ 1) && decide (1 ≤ rdK cs n) && decide (rdK cs n ≤ 200) &&
  decide (33 + rdK cs n + rdV cs n ≤ len - n) && rdSum cs n (25 + rdK cs n + rdV cs n)
def recOf (cs : List Value) (n : Nat) (r : Bool) : Value :=
 .agg #[.int .i64 (if r then (n : Int) else 0), .int .i64 (if r then ((33 + rdK cs n + rdV cs n : Nat) : Int) else 0), .int .u64 (if r then getFrom 0 0 ((cs.drop (n + 3)).take 8) else 0),
  .string (if r then ⟨(bytesOf ((cs.drop (n + 25)).take (rdK cs n))).toArray⟩ else ⟨#[]⟩), .int .i64 (if r then (rdV cs n : Int) else 0), .bool (r && decide (byteN cs (n + 2) = 1))]
def readV' (cs : List Value) (n : Nat) (r : Bool) : Value := .tuple #[recOf cs n r, .int .u64 (if r then getFrom 0 0 ((cs.drop (n + 11)).take 8) else 0), .bool r]
theorem okOrc1 : OrcSound Tryz.prog orc1 := fun f F h => by
 unfold orc1 at h
 split at h
 ·cases h; rename_i hf; subst hf; exact getF_sound
 ·split at h
  ·cases h; rename_i hf; subst hf; exact sumF_sound
  ·cases h
noncomputable abbrev xc1 : XCall := xgoO Tryz.prog okN orc1 kp 100
theorem yx1 : YX yc1 xc1 := ygo_is orc1 kp 100
theorem call1 : CallSound Tryz.prog xc1 := xgoO_sound mixed okN_ok okN_good okOrc1 kp 100
abbrev Run18 := Runs Tryz.prog okN xc1 (kp 37)
theorem code18 : codeOf Tryz.prog 37 = .seq (sub (codeOf Tryz.prog 37) [0]) (.seq (sub (codeOf Tryz.prog 37) [1,0]) (.seq (sub (codeOf Tryz.prog 37) [1,1,0]) (.seq (sub (codeOf Tryz.prog 37) [1,1,1,0]) (.seq (sub (codeOf Tryz.prog 37) [1,1,1,1,0]) (.seq (sub (codeOf Tryz.prog 37) [1,1,1,1,1,0]) (.seq (sub (codeOf Tryz.prog 37) [1,1,1,1,1,1,0]) (sub (codeOf Tryz.prog 37) [1,1,1,1,1,1,1]))))))) := by kernel_rfl
theorem body18 : Tryz.f37.body = some (codeOf Tryz.prog 37) := by kernel_rfl
theorem beqBytes_self : ∀ l, beqBytes l l = true
 | [] => rfl
 | b :: r => by simp [beqBytes, beqBytes_self r]
theorem same_int (k : IntKind) (n : Int) : same (.int k n) (.int k n) = true := by simp [same, same1]
theorem same_bool (b : Bool) : same (.bool b) (.bool b) = true := by simp [same, same1]
theorem same_str (b : ByteArray) : same (.string b) (.string b) = true := by simp [same, same1, beqBytes_self]
theorem same_ptr (a : Addr) : same (.pointer (some a)) (.pointer (some a)) = true := by simp [same, same1]
theorem same_slice (a : Addr) (l c : Nat) : same (.slice (some a) l c) (.slice (some a) l c) = true := by simp [same, same1]
theorem wrapAdd {a b : Nat} (h : a + b < 2 ^ 63) : IntKind.wrap .i64 ((a : Int) + (b : Int)) = ((a + b : Nat) : Int) := by
 rw [wrap64 (by omega) (by omega)]; omega
theorem wrapSub {a b : Nat} (h : b ≤ a) (h2 : a < 2 ^ 63) : IntKind.wrap .i64 ((a : Int) - (b : Int)) = ((a - b : Nat) : Int) := by
 rw [wrap64 (by omega) (by omega)]; omega
theorem take_bytes {cs : List Value} (h : cs.all isByte = true) (o k : Nat) : ((cs.drop o).take k).all isByte = true := by
 rw [List.all_eq_true] at h ⊢
 exact fun v hv => h v (List.mem_of_mem_drop (List.mem_of_mem_take hv))
theorem byte_at {cs : List Value} (h : cs.all isByte = true) {i : Nat} (hi : i < cs.length) : isByte (cs.getD i undefX) = true := by
 rw [List.getD_eq_getElem?_getD, List.getElem?_eq_getElem hi, Option.getD_some]
 exact List.all_eq_true.1 h _ (List.getElem_mem _)
theorem len_get {cs : List Value} {o k : Nat} : ((cs.drop o).take k).length ≤ k := by simp; omega
theorem rdK_lt {cs : List Value} (h : cs.all isByte = true) (n : Nat) : rdK cs n < 65536 := by
 have h1 := leN_lt (take_bytes h (n + 19) 2)
 have h2 : 256 ^ ((cs.drop (n + 19)).take 2).length ≤ 256 ^ 2 := Nat.pow_le_pow_right (by omega) len_get
 unfold rdK; omega
theorem rdV_lt {cs : List Value} (h : cs.all isByte = true) (n : Nat) : rdV cs n < 4294967296 := by
 have h1 := leN_lt (take_bytes h (n + 21) 4)
 have h2 : 256 ^ ((cs.drop (n + 21)).take 4).length ≤ 256 ^ 4 := Nat.pow_le_pow_right (by omega) len_get
 unfold rdV; omega
theorem read_runs {n len cap : Nat} {cs : List Value} {ro : Bool} (hlen : len < 2 ^ 40) (hlc : len ≤ cap) (hn : n ≤ len) (hcs : len ≤ cs.length) (hb : cs.all isByte = true) :
 ∃ a' T, Run18 (codeOf Tryz.prog 37) (startX Tryz.f37 [.slice (some ⟨0, 0, none⟩) len cap, .int .i64 (n : Int)]) (sumHeap cs ro) .ret a' T ∧
  xres Tryz.prog Tryz.f37 a' T = some (readV' cs n (isRec cs len n)) ∧ T.heap.get 0 = some (.row cs 1 ro) ∧ 1 ≤ T.next ∧ T.next ≤ 51 ∧ T.glob = 0 := by
 have h0 := Runs.path yx1 (readP0 n len cap cs ro) rfl
 have h1 := Runs.path yx1 (readP1 n len cap cs ro) (by
  simp only [Bool.and_true, Bool.and_eq_true, decide_eq_true_eq]; omega)
 have hi : ∀ i, i < cs.length → isInt .u8 (cs.getD i undefX) = true := fun i hi => isByte_int (byte_at hb hi)
 have hall := bytes_ints hb
 have e0 : 0 + n * 1 = n := by omega
 rw [e0] at h1
 rw [code18]
 by_cases c1 : len - n < 33
 ·have hr : isRec cs len n = false := by unfold isRec; rw [decide_eq_false (by omega : ¬ 33 ≤ len - n)]; rfl
  refine ⟨_, _, Runs.seq h0 (Runs.seq h1 (Runs.seq_ret (Runs.path yx1 (readShort n n (len - n) (cap - n) cs ro) ?_))), ?_, rfl, Nat.le_of_ble_eq_true rfl, Nat.le_of_ble_eq_true rfl, rfl⟩
  ·rw [decide_eq_true (by omega : ((len - n : Nat) : Int) < 33)]; rfl
  ·rw [hr]; kernel_rfl
 have t0 := hi (n + 0) (by omega)
 have t1 := hi (n + 1) (by omega)
 have t2 := hi (n + 2) (by omega)
 have d1 : decide (((len - n : Nat) : Int) < 33) = false := decide_eq_false (by omega)
 have d2 : decide (0 < ((len - n : Nat) : Int)) = true := decide_eq_true (by omega)
 have d3 : decide (1 < ((len - n : Nat) : Int)) = true := decide_eq_true (by omega)
 have d4 : decide (2 < ((len - n : Nat) : Int)) = true := decide_eq_true (by omega)
 have d5 : decide (n + 0 < cs.length) = true := decide_eq_true (by omega)
 have d6 : decide (n + 1 < cs.length) = true := decide_eq_true (by omega)
 have d7 : decide (n + 2 < cs.length) = true := decide_eq_true (by omega)
 by_cases c2 : intOf (cs.getD n undefX) = 99
 case neg =>
  have hr : isRec cs len n = false := by unfold isRec byteN; rw [decide_eq_false c2]; simp
  have f2 : decide (intOf (cs.getD (n + 0) undefX) = 99) = false := decide_eq_false c2
  refine ⟨_, _, Runs.seq h0 (Runs.seq h1 (Runs.seq_ret (Runs.path yx1 (readC n n (len - n) (cap - n) cs ro) ?_))), ?_, rfl, Nat.le_of_ble_eq_true rfl, Nat.le_of_ble_eq_true rfl, rfl⟩
  ·rw [d1, d2, d5, t0, f2]; rfl
  ·rw [hr]; kernel_rfl
 have f2 : decide (intOf (cs.getD (n + 0) undefX) = 99) = true := decide_eq_true c2
 by_cases c3 : intOf (cs.getD (n + 1) undefX) = 107
 case neg =>
  have hr : isRec cs len n = false := by unfold isRec byteN; rw [decide_eq_false c3]; simp
  have f3 := decide_eq_false c3
  refine ⟨_, _, Runs.seq h0 (Runs.seq h1 (Runs.seq_ret (Runs.path yx1 (readK n n (len - n) (cap - n) cs ro) ?_))), ?_, rfl, Nat.le_of_ble_eq_true rfl, Nat.le_of_ble_eq_true rfl, rfl⟩
  ·rw [d1, d2, d3, d5, d6, t0, t1, f2, f3]; rfl
  ·rw [hr]; kernel_rfl
 have f3 := decide_eq_true c3
 by_cases c4 : 1 < intOf (cs.getD (n + 2) undefX)
 case pos =>
  have hr : isRec cs len n = false := by unfold isRec byteN; rw [decide_eq_false (by omega : ¬ intOf (cs.getD (n + 2) undefX) ≤ 1)]; simp
  have f4 := decide_eq_true c4
  refine ⟨_, _, Runs.seq h0 (Runs.seq h1 (Runs.seq_ret (Runs.path yx1 (readX n n (len - n) (cap - n) cs ro) ?_))), ?_, rfl, Nat.le_of_ble_eq_true rfl, Nat.le_of_ble_eq_true rfl, rfl⟩
  ·rw [d1, d2, d3, d4, d5, d6, d7, t0, t1, t2, f2, f3, f4]; rfl
  ·rw [hr]; kernel_rfl
 have f4 := decide_eq_false c4
 have h2 := Runs.path yx1 (readA n n (len - n) (cap - n) cs ro) (by rw [d1, d2, d3, d4, d5, d6, d7, t0, t1, t2, f2, f3, f4]; rfl)
 have h3 := Runs.path yx1 (readB n n (len - n) (cap - n) cs ro (some (.bool (decide (1 < intOf (cs.getD (n + 2) undefX)))))) (by
  simp only [true_and, and_true, same_int, same_slice, hall, Bool.and_true, Bool.and_eq_true, decide_eq_true_eq]; omega)
 have eK : IntKind.wrap IntKind.i64 (getFrom 0 0 ((cs.drop (n + 19)).take 2)) = (rdK cs n : Int) := by
  have := rdK_lt hb n
  rw [get_eq _ (Nat.le_trans len_get (by omega)) (take_bytes hb _ _)]
  exact wrap64 (by omega) (by unfold rdK at this; omega)
 have eV : IntKind.wrap IntKind.i64 (getFrom 0 0 ((cs.drop (n + 21)).take 4)) = (rdV cs n : Int) := by
  have := rdV_lt hb n
  rw [get_eq _ (Nat.le_trans len_get (by omega)) (take_bytes hb _ _)]
  exact wrap64 (by omega) (by unfold rdV at this; omega)
 rw [eK, eV] at h3
 have hV := rdV_lt hb n
 by_cases c5 : rdK cs n < 1
 ·have hr : isRec cs len n = false := by unfold isRec; rw [decide_eq_false (by omega : ¬ 1 ≤ rdK cs n)]; simp
  refine ⟨_, _, Runs.seq h0 (Runs.seq h1 (Runs.seq h2 (Runs.seq h3 (Runs.seq_ret (Runs.path yx1 (readK0 n n (len - n) (cap - n) (rdK cs n) (rdV cs n) cs ro) ?_))))), ?_, rfl, Nat.le_of_ble_eq_true rfl, Nat.le_of_ble_eq_true rfl, rfl⟩
  ·rw [decide_eq_true (by omega : ((rdK cs n : Nat) : Int) < 1)]; rfl
  ·rw [hr]; kernel_rfl
 have f5 : decide (((rdK cs n : Nat) : Int) < 1) = false := decide_eq_false (by omega)
 by_cases c6 : 200 < rdK cs n
 ·have hr : isRec cs len n = false := by unfold isRec; rw [decide_eq_false (by omega : ¬ rdK cs n ≤ 200)]; simp
  refine ⟨_, _, Runs.seq h0 (Runs.seq h1 (Runs.seq h2 (Runs.seq h3 (Runs.seq_ret (Runs.path yx1 (readK200 n n (len - n) (cap - n) (rdK cs n) (rdV cs n) cs ro) ?_))))), ?_, rfl, Nat.le_of_ble_eq_true rfl, Nat.le_of_ble_eq_true rfl, rfl⟩
  ·rw [f5, decide_eq_true (by omega : 200 < ((rdK cs n : Nat) : Int))]; rfl
  ·rw [hr]; kernel_rfl
 have f6 : decide (200 < ((rdK cs n : Nat) : Int)) = false := decide_eq_false (by omega)
 have eL : IntKind.wrap IntKind.i64 (((len - n : Nat) : Int) - 33) = ((len - n - 33 : Nat) : Int) := by rw [wrap64 (by omega) (by omega)]; omega
 have eM : IntKind.wrap IntKind.i64 (((len - n - 33 : Nat) : Int) - (rdK cs n : Int)) = ((len - n - 33 : Nat) : Int) - (rdK cs n : Int) := by
  unfold IntKind.wrap
  have hb : IntKind.i64.bits = 64 := rfl
  have hs : IntKind.i64.signed = true := rfl
  rw [hb, hs]
  by_cases hneg : ((len - n - 33 : Nat) : Int) < (rdK cs n : Int)
  ·have hm : (((len - n - 33 : Nat) : Int) - (rdK cs n : Int)) % (2 ^ 64 : Int) = (((len - n - 33 : Nat) : Int) - (rdK cs n : Int)) + 2 ^ 64 := by omega
   rw [hm]
   simp only [Bool.true_and, decide_eq_true_eq]
   rw [if_pos (by omega)]; omega
  ·have hm : (((len - n - 33 : Nat) : Int) - (rdK cs n : Int)) % (2 ^ 64 : Int) = (((len - n - 33 : Nat) : Int) - (rdK cs n : Int)) := Int.emod_eq_of_lt (by omega) (by omega)
   rw [hm]
   simp only [Bool.true_and, decide_eq_true_eq]
   rw [if_neg (by omega)]
 by_cases c7 : len - n < 33 + rdK cs n + rdV cs n
 ·have hr : isRec cs len n = false := by unfold isRec; rw [decide_eq_false (by omega : ¬ 33 + rdK cs n + rdV cs n ≤ len - n)]; simp
  refine ⟨_, _, Runs.seq h0 (Runs.seq h1 (Runs.seq h2 (Runs.seq h3 (Runs.seq_ret (Runs.path yx1 (readV n n (len - n) (cap - n) (rdK cs n) (rdV cs n) cs ro) ?_))))), ?_, rfl, Nat.le_of_ble_eq_true rfl, Nat.le_of_ble_eq_true rfl, rfl⟩
  ·rw [f5, f6, eL, eM, decide_eq_true (by omega : ((len - n - 33 : Nat) : Int) - (rdK cs n : Int) < (rdV cs n : Int))]; rfl
  ·rw [hr]; kernel_rfl
 have f7 : decide (((len - n - 33 : Nat) : Int) - (rdK cs n : Int) < (rdV cs n : Int)) = false := decide_eq_false (by omega)
 have h4 := Runs.path yx1 (readD n n (len - n) (cap - n) (rdK cs n) (rdV cs n) cs ro) (by rw [eL, eM, f5, f6, f7]; rfl)
 have h5 := Runs.path yx1 (readE n n (len - n) (cap - n) (rdK cs n) (rdV cs n) cs ro (some (.bool (decide (IntKind.wrap IntKind.i64 (IntKind.wrap IntKind.i64 (((len - n : Nat) : Int) - 33) - (rdK cs n : Int)) < (rdV cs n : Int)))))) rfl
 have eE1 : IntKind.wrap IntKind.i64 (25 + (rdK cs n : Int)) = ((25 + rdK cs n : Nat) : Int) := wrapAdd (a := 25) (by omega)
 have eE2 : IntKind.wrap IntKind.i64 (((25 + rdK cs n : Nat) : Int) + (rdV cs n : Int)) = ((25 + rdK cs n + rdV cs n : Nat) : Int) := wrapAdd (by omega)
 rw [eE1, eE2] at h5
 generalize hE : 25 + rdK cs n + rdV cs n = E at *
 have eE8 : IntKind.wrap IntKind.i64 ((E : Int) + 8) = ((E + 8 : Nat) : Int) := wrapAdd (b := 8) (by omega)
 have eT : Int.toNat ((E + 8 : Nat) : Int) - E = 8 := by rw [Int.toNat_natCast]; omega
 by_cases c8 : getFrom 0 0 ((cs.drop (n + E * 1)).take 8) = sumFrom (sumSeed (n : Int)) ((cs.drop (n + 0)).take (E - 0))
 case neg =>
  have hr : isRec cs len n = false := by
   unfold isRec rdSum
   rw [hE, decide_eq_false (p := getFrom _ _ _ = _) (by rw [Nat.mul_one, Nat.add_zero, Nat.sub_zero] at c8; exact c8)]; simp
  refine ⟨_, _, Runs.seq h0 (Runs.seq h1 (Runs.seq h2 (Runs.seq h3 (Runs.seq h4 (Runs.seq h5 (Runs.seq_ret (Runs.path yx1 (readSum n n (len - n) (cap - n) (rdK cs n) (rdV cs n) E cs ro) ?_))))))), ?_, rfl, Nat.le_of_ble_eq_true rfl, Nat.le_of_ble_eq_true rfl, rfl⟩
  ·rw [eE8, eT]
   simp only [true_and, and_true, same_int, same_slice, same_bool, hall, decide_eq_false c8, Bool.not_false, Bool.and_true, Bool.and_eq_true, decide_eq_true_eq, Int.toNat_natCast]; omega
  ·rw [hr]; kernel_rfl
 have h6 := Runs.path yx1 (readF n n (len - n) (cap - n) (rdK cs n) (rdV cs n) E cs ro) (by
  rw [eE8, eT]
  simp only [true_and, and_true, same_int, same_slice, same_bool, hall, decide_eq_true c8, Bool.not_true, Bool.not_false, Bool.and_true, Bool.and_eq_true, decide_eq_true_eq, Int.toNat_natCast]; omega)
 have hr : isRec cs len n = true := by
  unfold isRec rdSum byteN
  rw [hE]
  simp only [Bool.and_eq_true, decide_eq_true_eq]
  rw [Nat.mul_one, Nat.add_zero, Nat.sub_zero] at c8
  exact ⟨⟨⟨⟨⟨⟨⟨by omega, c2⟩, c3⟩, by omega⟩, by omega⟩, by omega⟩, by omega⟩, c8⟩
 have hkey : (List.all (List.take (rdK cs n) (List.drop (n + 25) cs)) (isInt IntKind.u8)) = true := bytes_ints (take_bytes hb _ _)
 have eK2 : Int.toNat ((25 + rdK cs n : Nat) : Int) - 25 = rdK cs n := by rw [Int.toNat_natCast]; omega
 have h7 := fun j => Runs.path yx1 (readG n n (len - n) (cap - n) (rdK cs n) (rdV cs n) E cs ro j) (by
  rw [eE1, eE8, eK2]
  simp only [true_and, and_true, same_int, same_slice, same_bool, same_str, same_ptr, hall, hkey, t2, Bool.and_true, Bool.and_eq_true, decide_eq_true_eq, Int.toNat_natCast, Bool.not_eq_true', decide_eq_false_iff_not]
  simp only [same, sameL, same1, sameM, sameA, splice, List.take_succ_cons, List.take_zero, List.drop_succ_cons, List.drop_zero, List.drop_nil, List.nil_append, List.cons_append, List.append_nil, List.length_cons, List.length_nil, Nat.zero_add, Nat.reduceAdd, beqBytes_self, decide_true, Bool.and_self, beq_self_eq_true, and_true, true_and]
  omega)
 refine ⟨_, _, Runs.seq h0 (Runs.seq h1 (Runs.seq h2 (Runs.seq h3 (Runs.seq h4 (Runs.seq h5 (Runs.seq h6 (h7 _))))))), ?_, rfl, Nat.le_of_ble_eq_true rfl, Nat.le_of_ble_eq_true rfl, rfl⟩
 rw [hr]
 refine Eq.trans (b := some (.tuple #[.agg #[.int .i64 (n : Int), .int .i64 (IntKind.wrap .i64 ((E : Int) + 8)), .int .u64 (getFrom 0 0 ((cs.drop (n + 3)).take 8)),
  .string ⟨(bytesOf ((cs.drop (n + 25)).take (Int.toNat (IntKind.wrap IntKind.i64 (25 + (rdK cs n : Int))) - 25))).toArray⟩, .int .i64 (rdV cs n : Int), .bool (decide (intOf (cs.getD (n + 2) undefX) = 1))],
  .int .u64 (getFrom 0 0 ((cs.drop (n + 11)).take 8)), .bool true])) (by kernel_rfl) ?_
 rw [eE8, eE1, eK2, ← hE]
 unfold readV' recOf byteN
 simp only [if_true, Bool.true_and]
 rw [show 33 + rdK cs n + rdV cs n = 25 + rdK cs n + rdV cs n + 8 by omega]
def readFn (args : List Value) (S : St) : Y (Value × St) :=
 match args with
 | [.slice (some ⟨b, 0, none⟩) len cap, .int .i64 at'] => match S.heap.get b with
  | some (.row cs 1 ro) => .req (decide (len < 1099511627776)) (.req (decide (len ≤ cap)) (.req (decide (0 ≤ at')) (.req (decide (at'.toNat ≤ len)) (.req (decide (len ≤ cs.length)) (.req (cs.all isByte)
   (.pure (readV' cs at'.toNat (isRec cs len at'.toNat), { S with next := S.next + 50 })))))))
  | _ => none
 | _ => none
theorem recOf_ren (cs : List Value) (n : Nat) (r : Bool) (π : Nat → Nat) : RenV π (recOf cs n r) (recOf cs n r) :=
 .agg (.plain rfl)
theorem readV_ren (cs : List Value) (n : Nat) (r : Bool) (π : Nat → Nat) : RenV π (readV' cs n r) (readV' cs n r) :=
 .tuple (.cons (recOf_ren cs n r π) (.cons (.int _ _) (.cons (.bool _) .nil)))
theorem readFn_sound (args : List Value) (S : St) (v : Value) (S' : St) (hx : readFn args S = some (true, (v, S'))) (α : Place) (w : World) (args' : Array Value) (h : Rel α S w) (ha : LRel α args args'.toList) :
 Calls Tryz.prog 37 args' w fun e w' => ∃ β v', e = .returned v' ∧ Next α S w β S' w' ∧ VRel β v v' := by
 unfold readFn at hx
 split at hx
 ·rename_i b len cap at'
  split at hx
  ·rename_i cs ro hb
   simp only [Y.req_is, Y.pure_is, decide_eq_true_eq, Prod.mk.injEq] at hx
   obtain ⟨h1, h2, h3, h4, h5, h6, rfl, rfl⟩ := hx
   obtain ⟨n, rfl⟩ : ∃ n : Nat, at' = (n : Int) := ⟨at'.toNat, by omega⟩
   rw [Int.toNat_natCast] at *
   refine one_none h hb (fun π => .plain (ints_plain (bytes_ints h6))) (fun π => readV_ren cs n _ π) (fun hr => ?_)
   obtain ⟨a', T, hrun, hres, g1, g2, g3, g4⟩ := read_runs (cap := cap) (ro := ro) (by omega) h2 h4 h5 h6
   have hl : LRel (fun i => α (pi1 b S i)) [.slice (some ⟨0, 0, none⟩) len cap, .int .i64 (n : Int)] args'.toList :=
    (RenL.lrel (π := pi1 b S) (.cons (.slice 0 0 len cap) (.cons (.int _ _) .nil)) α _).2 (by simpa [pi1] using ha)
   refine (Runs.calls mixed okN_ok call1 Tryz.func37 body18 (okN_good 37 _ _ rfl Tryz.func37 body18) hrun (.inr rfl) hres hr hl).mono ?_
   rintro x w' ⟨β, v', rfl, hn, hv⟩
   refine ⟨β, v', rfl, ?_, hv⟩
   have := hn.widen (m := 51) g3
   refine this.same (fun i e hi => ?_) rfl (by simpa using g4.symm)
   obtain ⟨rfl, rfl⟩ := get1 hi
   exact g1
  ·cases hx
 ·cases hx
def putF (args : List Value) (S : St) : Y (Value × St) :=
 match args with
 | [.slice (some ⟨b, o, none⟩) len cap, .int .u64 n, .int .i64 k] => match S.heap.get b with
  | some (.row cs 1 false) => .req (decide (len = cap)) (.req (decide (len < 1099511627776)) (.req (decide (0 ≤ n)) (.req (decide (o + len ≤ cs.length)) (.req (cs.all isByte) (.req (decide (k = 2 ∨ k = 4 ∨ k = 8))
   (.pure (.slice (some ⟨S.next + (2 * k.toNat - 1), 0, none⟩) (len + k.toNat) (len + k.toNat),
    { S with heap := (S.heap.set b none).set (S.next + (2 * k.toNat - 1)) (some (.row ((cs.drop o).take len ++ leB n.toNat k.toNat) 1 false)), next := S.next + 2 * k.toNat })))))))
  | _ => none
 | _ => none
theorem takeAll {L : List Value} {m : Nat} (h : L.length ≤ m) : List.take (m * 1) (List.drop 0 L) = L := by
 rw [Nat.mul_one, List.drop_zero, List.take_of_length_le h]
theorem cellOf (x : Value) : List.take 1 (List.drop 0 (splice (zerosL [Value.int .u8 0] 1) 0 [x])) = [x] := rfl
theorem fdivN (n : Nat) : Int.fdiv (n : Int) 256 = ((n / 256 : Nat) : Int) := by
 rw [Int.fdiv_eq_ediv_of_nonneg _ (by decide)]; rfl
theorem ones_bytes {l : List Value} (h : l.all isByte = true) : l.all one = true := by
 rw [List.all_eq_true] at h ⊢
 intro v hv
 obtain ⟨n, _, rfl⟩ := isByte_nat (h v hv)
 rfl
theorem oneInt (k : IntKind) (n : Int) : one (.int k n) = true := rfl
theorem body48 : Tryz.f72.body = some (codeOf Tryz.prog 72) := by kernel_rfl
abbrev Run48 := Runs Tryz.prog okN xc0 (kp 72)
theorem put_runs {n o len : Nat} {cs : List Value} (k : Nat) (hk : k = 2 ∨ k = 4 ∨ k = 8) (hlen : len < 1099511627776) (hcs : o + len ≤ cs.length) (hb : cs.all isByte = true) :
 ∃ a' T, Run48 (codeOf Tryz.prog 72) (startX Tryz.f72 [.slice (some ⟨0, o, none⟩) len len, .int .u64 (n : Int), .int .i64 (k : Int)]) { heap := PT.leaf.set 0 (some (.row cs 1 false)), next := 1, glob := 0 } .ret a' T ∧
  xres Tryz.prog Tryz.f72 a' T = some (.slice (some ⟨2 * k, 0, none⟩) (len + k) (len + k)) ∧ T.heap.get (2 * k) = some (.row ((cs.drop o).take len ++ leB n k) 1 false) ∧ T.next = 1 + 2 * k ∧ T.glob = 0 := by
 have hA : ((cs.drop o).take (len * 1)).length = len := by rw [Nat.mul_one, List.length_take, List.length_drop]; omega
 have hA1 : ((cs.drop o).take (len * 1)).all one = true := ones_bytes (take_bytes hb _ _)
 have hA2 : (cs.drop o).take len = (cs.drop o).take (len * 1) := by rw [Nat.mul_one]
 rw [hA2]
 generalize hL : (cs.drop o).take (len * 1) = A at *
 rcases hk with rfl | rfl | rfl
 ·have h := put2 n o len len cs
  rw [hL] at h
  simp (disch := (simp [hA]; try omega)) only [cellOf, takeAll] at h
  refine ⟨_, _, Runs.path yx0 h ?_, by kernel_rfl, ?_, rfl, rfl⟩
  ·simp only [Bool.and_true, Bool.and_eq_true, List.all_append, List.all_cons, List.all_nil, hA1, oneInt, List.length_append, List.length_cons, List.length_nil, hA, decide_eq_true_eq, Bool.not_eq_true', decide_eq_false_iff_not, and_true, true_and]
   omega
  ·refine Eq.trans (b := some _) rfl ?_
   simp only [fdivN, wrapU8, leB, List.append_assoc, List.cons_append, List.nil_append]
 ·have h := put4 n o len len cs
  rw [hL] at h
  simp (disch := (simp [hA]; try omega)) only [cellOf, takeAll] at h
  refine ⟨_, _, Runs.path yx0 h ?_, by kernel_rfl, ?_, rfl, rfl⟩
  ·simp only [Bool.and_true, Bool.and_eq_true, List.all_append, List.all_cons, List.all_nil, hA1, oneInt, List.length_append, List.length_cons, List.length_nil, hA, decide_eq_true_eq, Bool.not_eq_true', decide_eq_false_iff_not, and_true, true_and]
   omega
  ·refine Eq.trans (b := some _) rfl ?_
   simp only [fdivN, wrapU8, leB, List.append_assoc, List.cons_append, List.nil_append]
 ·have h := put8 n o len len cs
  rw [hL] at h
  simp (disch := (simp [hA]; try omega)) only [cellOf, takeAll] at h
  refine ⟨_, _, Runs.path yx0 h ?_, by kernel_rfl, ?_, rfl, rfl⟩
  ·simp only [Bool.and_true, Bool.and_eq_true, List.all_append, List.all_cons, List.all_nil, hA1, oneInt, List.length_append, List.length_cons, List.length_nil, hA, decide_eq_true_eq, Bool.not_eq_true', decide_eq_false_iff_not, and_true, true_and]
   omega
  ·refine Eq.trans (b := some _) rfl ?_
   simp only [fdivN, wrapU8, leB, List.append_assoc, List.cons_append, List.nil_append]
theorem putF_sound (args : List Value) (S : St) (v : Value) (S' : St) (hx : putF args S = some (true, (v, S'))) (α : Place) (w : World) (args' : Array Value) (h : Rel α S w) (ha : LRel α args args'.toList) :
 Calls Tryz.prog 72 args' w fun e w' => ∃ β v', e = .returned v' ∧ Next α S w β S' w' ∧ VRel β v v' := by
 unfold putF at hx
 split at hx
 ·rename_i b o len cap n k
  split at hx
  ·rename_i cs hb
   simp only [Y.req_is, Y.pure_is, decide_eq_true_eq, Prod.mk.injEq] at hx
   obtain ⟨rfl, h2, h3, h4, h5, h6, rfl, rfl⟩ := hx
   obtain ⟨m, rfl⟩ : ∃ m : Nat, n = (m : Int) := ⟨n.toNat, by omega⟩
   obtain ⟨j, rfl⟩ : ∃ j : Nat, k = (j : Int) := ⟨k.toNat, by omega⟩
   simp only [Int.toNat_natCast] at *
   have hj : j = 2 ∨ j = 4 ∨ j = 8 := by omega
   refine one_move (k := 2 * j) (K := 2 * j) (v := .slice (some ⟨2 * j, 0, none⟩) (len + j) (len + j)) (by omega) (by omega) h hb (fun π => .plain (ints_plain (bytes_ints h5)))
    (fun π => .plain (ints_plain (bytes_ints (by rw [List.all_append, take_bytes h5, leB_bytes]; rfl)))) rfl ?_ (fun hr => ?_)
   ·have := RenV.slice (π := pi1 b S) (2 * j) 0 (len + j) (len + j)
    rw [show pi1 b S (2 * j) = S.next + (2 * j - 1) by unfold pi1; rw [if_neg (by omega)]] at this
    exact this
   obtain ⟨a', T, hrun, hres, g1, g2, g3⟩ := put_runs (n := m) j hj h2 h4 h5
   have hl : LRel (fun i => α (pi1 b S i)) [.slice (some ⟨0, o, none⟩) len len, .int .u64 (m : Int), .int .i64 (j : Int)] args'.toList :=
    (RenL.lrel (π := pi1 b S) (.cons (.slice 0 o len len) (.cons (.int _ _) (.cons (.int _ _) .nil))) α _).2 (by simpa [pi1] using ha)
   refine (Runs.calls mixed okN_ok call0 Tryz.func72 body48 (okN_good 72 _ _ rfl Tryz.func72 body48) hrun (.inr rfl) hres hr hl).mono ?_
   rintro x w' ⟨β, v', rfl, hn, hv⟩
   refine ⟨β, v', rfl, hn.same (fun i e hi => ?_) (by simpa using g2.symm) (by simpa using g3.symm), hv⟩
   rw [PT.get_set] at hi
   split at hi
   ·rename_i hik; cases hi; subst hik; exact g1
   ·simp [PT.get] at hi
  ·cases hx
 ·cases hx
end Go.Xe
